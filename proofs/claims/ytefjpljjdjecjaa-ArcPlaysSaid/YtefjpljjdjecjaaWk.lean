/- Get, of a key that is had. -/
import Derived.Test.YtefjpljjdjecjaaWj
namespace Go.Proofs.Ytefjpljjdjecjaa
open Go.RowKit
theorem move_has {s : Cs} {x : It} : x ∈ (moveF s x).R 1 := by
  show x ∈ upd (rmK s.R x.key) 1 (rmK s.R x.key 1 ++ [x]) 1
  rw [upd_same]; simp
/-- Data comes from where it was. -/
def DS (s s' : Cs) : Prop := ∀ y ∈ allI s'.R, ∀ d, y.d = some d → ∃ z ∈ allI s.R, z.d = some d ∧ z.key = y.key ∧ z.v = y.v
theorem DS.refl (s : Cs) : DS s s := fun y hy _ hd => ⟨y, hy, hd, rfl, rfl⟩
theorem DS.trans {a b c : Cs} (h : DS a b) (k : DS b c) : DS a c := fun y hy d hd => by
  obtain ⟨z, hz, e1, e2, e3⟩ := k y hy d hd
  obtain ⟨u, hu, f1, f2, f3⟩ := h z hz d e1
  exact ⟨u, hu, f1, f2.trans e2, f3.trans e3⟩
theorem DS.forget (s : Cs) (r : Nat) (hr : r < 4) : DS s (forgetF s r) := fun y hy d hd => by
  rcases mem_upd hy with h | h
  · exact ⟨y, mem_allI.2 ⟨r, hr, List.mem_of_mem_tail h⟩, hd, rfl, rfl⟩
  · exact ⟨y, h, hd, rfl, rfl⟩
theorem DS.ghost (s : Cs) (f g : Nat) (hf : f < 4) (hg : g < 4) : DS s (ghostF s f g) := fun y hy d hd => by
  unfold ghostF at hy
  cases hR : s.R f with
  | nil => rw [hR] at hy; exact ⟨y, hy, hd, rfl, rfl⟩
  | cons x L =>
    rw [hR] at hy
    rcases mem_upd hy with h | h
    · rcases List.mem_append.1 h with h | h
      · exact ⟨y, mem_allI.2 ⟨g, hg, h⟩, hd, rfl, rfl⟩
      · simp at h; subst h; cases hd
    · rcases mem_upd h with h | h
      · exact ⟨y, mem_allI.2 ⟨f, hf, by rw [hR]; exact List.mem_cons_of_mem _ h⟩, hd, rfl, rfl⟩
      · exact ⟨y, h, hd, rfl, rfl⟩
theorem DS.room (s : Cs) (g : Bool) : DS s (roomF s g) := by
  unfold roomF
  split
  · exact DS.refl s
  · split
    · exact DS.ghost s 0 2 (by decide) (by decide)
    · exact DS.ghost s 1 3 (by decide) (by decide)
theorem DS.pre (s : Cs) (r : Nat) : DS s (havePre s r) := by
  unfold havePre
  split
  · exact DS.trans (b := setT s (adj2 s)) (DS.refl s) (DS.room _ _)
  · split
    · exact DS.trans (b := setT s (adj3 s)) (DS.refl s) (DS.room _ _)
    · exact DS.refl s
theorem mem_move {s : Cs} {x y : It} (h : y ∈ allI (moveF s x).R) : y = x ∨ (y ∈ allI s.R ∧ y.key ≠ x.key) := by
  obtain ⟨i, hi, hy⟩ := mem_allI.1 h
  have hy : y ∈ upd (rmK s.R x.key) 1 (rmK s.R x.key 1 ++ [x]) i := hy
  have hrm : ∀ j, j < 4 → y ∈ rmK s.R x.key j → y ∈ allI s.R ∧ y.key ≠ x.key := fun j hj hm => by
    unfold rmK at hm
    obtain ⟨h1, h2⟩ := List.mem_filter.1 hm
    exact ⟨mem_allI.2 ⟨j, hj, h1⟩, by simpa using h2⟩
  unfold upd at hy
  split at hy
  · rcases List.mem_append.1 hy with h | h
    · exact .inr (hrm 1 (by decide) h)
    · simp at h; exact .inl h
  · exact .inr (hrm i hi hy)
theorem DS.have {s : Cs} {r : Nat} (hr : r < 4) {x : It} (hx : x ∈ s.R r) : DS s (moveF (havePre s r) x) := fun y hy d hd => by
  rcases mem_move hy with rfl | ⟨h, _⟩
  · exact ⟨y, mem_allI.2 ⟨r, hr, hx⟩, hd, rfl, rfl⟩
  · exact DS.pre s r y h d hd
set_option maxHeartbeats 1000000 in
theorem get_some_at (Z : List Value) (z30 : ∀ w, (zeroValue 30).run Try.prog w = .ok (.agg Z.toArray) w) (HZ : Hid (OneC Z)) (w : World) (cb : Nat) (s : Cs) (h : CA w cb s) (hs : Small s) (key : Int) (x : It) (r : Nat) (hr : r < 4) (hx : x ∈ s.R r) (hk : x.key = key) (d : Nat) (hxd : x.d = some d) (hxv : OneC x.v) :
    Calls Try.prog 12 #[.pointer (some ⟨cb, 0, none⟩), .int .i64 key] w fun e w' => e = .returned (.tuple #[.agg x.v.toArray, .int .i64 0]) ∧ GoesV cb s (moveF (havePre s r) x) w w' := by
  have hal := (Below.refl w.heap.size w).alloc (Nat.le_refl _) (.cells Z.toArray 30)
  have h1 := h.nextb hal
  have hd : RowAt (w.alloc (.cells Z.toArray 30)) w.heap.size 30 Z := RowAt.new w 30 _
  have hgo : ¬ Own cb s w.heap.size := fun hh => Nat.lt_irrefl _ (h.lt hh)
  have p12 : (w.alloc (.cells Z.toArray 30)).cell? ⟨cb, 12, none⟩ = some (.map (some s.mb)) := h1.ra.row.cell 12
  have hrun := run_look (P := Try.prog) h1.mp Try.underlying61 Try.underlying3 (.pointer none) (zero62 _) key
  have hm : mapOf s.R key = some (ptr (some x.b)) := by
    unfold mapOf
    rw [(fk_iff h.nk key x).2 ⟨mem_allI.2 ⟨r, hr, hx⟩, hk⟩]; rfl
  rw [hm] at hrun
  simp only [Option.getD_some, ptr] at hrun
  obtain ⟨p', n', hX⟩ := (h1.ra.lk r hr).mem hx
  have x2 := hX.cell 2
  simp [itCells, hxd, ptr] at x2
  obtain ⟨hv, hdo⟩ := h1.dt x (mem_allI.2 ⟨r, hr, hx⟩) d hxd
  have hx' : { x with d := some d, v := x.v } = x := by rw [← hxd]
  have hh := have_some _ cb s h1 hs key x r hr hx hk d x.v hv hdo
  rw [hx'] at hh
  have HH := Lib.hid hh
  have HR := Lib.hid hrun
  have HN := Lib.hid (none_any _ cb s h1)
  have HA := Lib.hid hal
  have HD := Lib.hid hd
  have HV := Lib.hid hxv
  have HXD := Lib.hid hxd
  have HI : Hid ((Try.prog.info? 30).map (·.size) = some x.v.toArray.size) := Lib.hid (by rw [info30]; simp [hxv.1])
  have HO : Hid (Z.toArray.size = x.v.toArray.size) := Lib.hid (by simp [hxv.1, HZ.out.1])
  have H := Lib.hid h
  have HX := Lib.hid hx
  clear h hrun hm hal h1 hd hX hx hk hv hdo hh hs hx' hxd hxv
  go_enter Try.func12, Try.ntmps12
  go_wp2_with fail
  refine HN.out.mono ?_
  rintro e w1 ⟨rfl, rfl⟩
  go_wp2_with (at_lookup; refine wpList_look rfl rfl rfl rfl HR.out ?_)
  refine HH.out.mono ?_
  rintro e w2 hg
  have HG := Lib.hid hg
  obtain rfl := hg.1
  clear hg x2 p12
  have hy : x ∈ allI (moveF (havePre s r) x).R := mem_allI.2 ⟨1, by decide, move_has⟩
  obtain ⟨p2, n2, hX⟩ := (HG.out.2.1.ra.lk 1 (by decide)).mem move_has
  have x2 := hX.cell 2
  simp [itCells, HXD.out, ptr] at x2
  have HV2 := Lib.hid (HG.out.2.1.dt x hy d HXD.out).1
  have HD2 := Lib.hid (HD.out.fr HG.out.2.2.1 hgo)
  clear hX hy
  go_wp2_with (first | (refine wpList_load_row rfl 30 (.tmp 38) rfl d rfl 30 x.v.toArray (0, 0) (.array 512 5) HV2.out Try.underlying30 rfl HI.out ?_) | (refine wpList_store_row rfl 30 (.tmp 4) (.tmp 39) rfl w.heap.size x.v.toArray rfl rfl 30 Z.toArray HD2.out HI.out HO.out HV.out.2 ?_))
  refine bodyPost_ret (results_ct rfl _ _ w.heap.size x.v _ rfl rfl HD2.out.setRow HV.out.1) rfl ?_
  refine ⟨rfl, ?_⟩
  have hg1 := HG.out.v.drop HA.out
  have hf : Fr (· = w.heap.size) w2 (w2.setRow w.heap.size x.v.toArray) := ⟨rfl, rfl, rfl, by simp, fun k hk hn => setRow_other w2 _ k _ hn⟩
  have hno : ∀ k, k = w.heap.size → ¬ Own cb (moveF (havePre s r) x) k := by
    rintro k rfl hh
    rcases HG.out.2.2.2 _ hh with h2 | h2
    · exact hgo h2
    · simp at h2; omega
  refine ⟨hg1.1.fr hf hno ?_, ⟨hg1.2.1.os, hg1.2.1.tape, hg1.2.1.output, by simp; exact hg1.2.1.size, fun k hk hn => (setRow_other w2 _ k _ (by omega)).trans (hg1.2.1.block k hk hn)⟩, hg1.2.2⟩
  intro y hy d' hd' e
  obtain ⟨z, hz, hzd, _⟩ := DS.have hr HX.out y hy d' hd'
  have := (H.out.dt z hz d' hzd).1.lt
  omega
theorem get_some (w : World) (cb : Nat) (s : Cs) (h : CA w cb s) (hs : Small s) (key : Int) (x : It) (r : Nat) (hr : r < 4) (hx : x ∈ s.R r) (hk : x.key = key) (hxd : x.d.isSome) (hxv : OneC x.v) :
    Calls Try.prog 12 #[.pointer (some ⟨cb, 0, none⟩), .int .i64 key] w fun e w' => e = .returned (.tuple #[.agg x.v.toArray, .int .i64 0]) ∧ GoesV cb s (moveF (havePre s r) x) w w' := by
  obtain ⟨d, hd⟩ := Option.isSome_iff_exists.1 hxd
  exact get_some_at (blk 0) zero30 (Lib.hid (blk_one 0)) w cb s h hs key x r hr hx hk d hd hxv
end Go.Proofs.Ytefjpljjdjecjaa
