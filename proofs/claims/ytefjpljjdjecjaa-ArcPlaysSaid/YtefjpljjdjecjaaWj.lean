/- Get. -/
import Derived.Test.YtefjpljjdjecjaaWi
namespace Go.Proofs.Ytefjpljjdjecjaa
open Go.RowKit
def blk (c : Int) : List Value := .int .u8 c :: List.replicate 511 (.int .u8 0)
theorem blk_len (c : Int) : (blk c).length = 512 := by unfold blk; rw [List.length_cons, List.length_replicate]
theorem zero30 (w : World) : (zeroValue 30).run Try.prog w = .ok (.agg (blk 0).toArray) w := by kernel_rfl
theorem built30 : Try.prog.built 30 [] = some (blk 0).toArray := by kernel_rfl
theorem info30 : (Try.prog.info? 30).map (·.size) = some 512 := by kernel_rfl
def OneC (v : List Value) : Prop := v.length = 512 ∧ v.toArray.all (·.oneCell') = true
theorem blk_one (c : Int) : OneC (blk c) := by
  refine ⟨blk_len c, ?_⟩
  rw [Array.all_eq_true_iff_forall_mem]
  intro x hx
  have hx' : x ∈ blk c := by simpa using hx
  unfold blk at hx'
  rcases List.mem_cons.1 hx' with rfl | h
  · rfl
  · rw [(List.mem_replicate.1 h).2]; rfl
theorem RowAt.setRow {w : World} {b : Nat} {t : TypeId} {l l' : List Value} (h : RowAt w b t l) : RowAt (w.setRow b l'.toArray) b t l' := by
  have := setRow_heap w b l.toArray l'.toArray t (0, 0) h
  exact this
theorem below_setRow {w : World} {B g : Nat} {cs : Array Value} (hg : B ≤ g) : Below B w (w.setRow g cs) :=
  ⟨rfl, rfl, rfl, by simp, fun k hk => setRow_other w g k cs (by omega)⟩
theorem load30 {w : World} {g : Nat} {v : List Value} (h : RowAt w g 30 v) (hl : v.length = 512) : (loadVar 30 ⟨g, 0, none⟩).run Try.prog w = .ok (.agg v.toArray) w :=
  run_loadVar_row w g 30 30 v.toArray (0, 0) (.array 512 5) h Try.underlying30 rfl (by rw [info30]; simp [hl])
theorem results_ct {fn : Func} {p q : Tmp} (h : fn.results = #[.cell p 30, .tmp q]) (tmps : Array Value) (w : World) (g : Nat) (v : List Value) (u : Value) (hp : tmps.getD p undef = .pointer (some ⟨g, 0, none⟩)) (hu : tmps.getD q undef = u) (hg : RowAt w g 30 v) (hl : v.length = 512) :
    (results fn tmps).run Try.prog w = .ok (.tuple #[.agg v.toArray, u]) w := by
  have ha : (asAddr (.pointer (some ⟨g, 0, none⟩))).run Try.prog w = .ok ⟨g, 0, none⟩ w := rfl
  rw [results_cell_tmp h, hp, hu, ha]
  show ((loadVar 30 ⟨g, 0, none⟩).run Try.prog w).andThen _ = _
  rw [load30 hg hl]; rfl
set_option maxHeartbeats 1000000 in
theorem get_none_at (Z : List Value) (z30 : ∀ w, (zeroValue 30).run Try.prog w = .ok (.agg Z.toArray) w) (b30 : Try.prog.built 30 [] = some Z.toArray) (HZ : Hid (OneC Z)) (w : World) (cb : Nat) (s : Cs) (h : CA w cb s) (key : Int) (hk : fk (allI s.R) key = none) :
    Calls Try.prog 12 #[.pointer (some ⟨cb, 0, none⟩), .int .i64 key] w fun e w' => e = .returned (.tuple #[.agg Z.toArray, .int .i64 5]) ∧ Below w.heap.size w w' := by
  have hal := (Below.refl w.heap.size w).alloc (Nat.le_refl _) (.cells Z.toArray 30)
  have h1 := h.nextb hal
  have hd : RowAt (w.alloc (.cells Z.toArray 30)) w.heap.size 30 Z := RowAt.new w 30 _
  have p12 : (w.alloc (.cells Z.toArray 30)).cell? ⟨cb, 12, none⟩ = some (.map (some s.mb)) := h1.ra.row.cell 12
  have hr := run_look (P := Try.prog) h1.mp Try.underlying61 Try.underlying3 (.pointer none) (zero62 _) key
  have hm : mapOf s.R key = none := by unfold mapOf; rw [hk]; rfl
  rw [hm] at hr
  have HR := Lib.hid hr
  have HN := Lib.hid (none_any _ cb s h1)
  have HA := Lib.hid hal
  have HD := Lib.hid hd
  have HB30 : Hid ((Try.prog.built 30 []).isSome = true) := Lib.hid (by rw [b30]; rfl)
  have HB31 : Hid ((Try.prog.built 30 []).getD #[] = Z.toArray) := Lib.hid (by rw [b30]; rfl)
  clear h hr hm hk hal h1 hd
  go_enter Try.func12, Try.ntmps12
  go_wp2_with fail
  refine HN.out.mono ?_
  rintro e w1 ⟨rfl, rfl⟩
  go_wp2_with (first | (at_lookup; refine wpList_look rfl rfl rfl rfl HR.out ?_) | (refine wpList_build rfl 30 #[] rfl HB30.out ?_; rw [HB31.out]) | (refine wpList_store_row rfl 30 (.tmp 4) (.tmp 26) rfl w.heap.size Z.toArray rfl rfl 30 Z.toArray HD.out (by rw [info30]; simp [HZ.out.1]) rfl HZ.out.2 ?_))
  refine bodyPost_ret (results_ct rfl _ _ w.heap.size Z _ rfl rfl HD.out.setRow HZ.out.1) rfl ?_
  exact ⟨rfl, HA.out.trans (below_setRow (Nat.le_refl _))⟩
set_option maxHeartbeats 1000000 in
theorem get_ghost_at (Z : List Value) (z30 : ∀ w, (zeroValue 30).run Try.prog w = .ok (.agg Z.toArray) w) (b30 : Try.prog.built 30 [] = some Z.toArray) (HZ : Hid (OneC Z)) (w : World) (cb : Nat) (s : Cs) (h : CA w cb s) (key : Int) (x : It) (hk : fk (allI s.R) key = some x) (hxd : x.d = none) :
    Calls Try.prog 12 #[.pointer (some ⟨cb, 0, none⟩), .int .i64 key] w fun e w' => e = .returned (.tuple #[.agg Z.toArray, .int .i64 5]) ∧ Below w.heap.size w w' := by
  have hal := (Below.refl w.heap.size w).alloc (Nat.le_refl _) (.cells Z.toArray 30)
  have h1 := h.nextb hal
  have hd : RowAt (w.alloc (.cells Z.toArray 30)) w.heap.size 30 Z := RowAt.new w 30 _
  have p12 : (w.alloc (.cells Z.toArray 30)).cell? ⟨cb, 12, none⟩ = some (.map (some s.mb)) := h1.ra.row.cell 12
  have hr := run_look (P := Try.prog) h1.mp Try.underlying61 Try.underlying3 (.pointer none) (zero62 _) key
  have hm : mapOf s.R key = some (ptr (some x.b)) := by unfold mapOf; rw [hk]; rfl
  rw [hm] at hr
  simp only [Option.getD_some, ptr] at hr
  obtain ⟨r, hrr, hx⟩ := mem_allI.1 ((fk_iff h.nk key x).1 hk).1
  obtain ⟨p', n', hX⟩ := (h1.ra.lk r hrr).mem hx
  have x2 := hX.cell 2
  simp [itCells, hxd, ptr] at x2
  clear hX hx hrr
  have HR := Lib.hid hr
  have HN := Lib.hid (none_any _ cb s h1)
  have HA := Lib.hid hal
  have HD := Lib.hid hd
  have HB30 : Hid ((Try.prog.built 30 []).isSome = true) := Lib.hid (by rw [b30]; rfl)
  have HB31 : Hid ((Try.prog.built 30 []).getD #[] = Z.toArray) := Lib.hid (by rw [b30]; rfl)
  clear h hr hm hk hal h1 hd
  go_enter Try.func12, Try.ntmps12
  go_wp2_with fail
  refine HN.out.mono ?_
  rintro e w1 ⟨rfl, rfl⟩
  go_wp2_with (first | (at_lookup; refine wpList_look rfl rfl rfl rfl HR.out ?_) | (refine wpList_build rfl 30 #[] rfl HB30.out ?_; rw [HB31.out]) | (refine wpList_store_row rfl 30 (.tmp 4) (.tmp 26) rfl w.heap.size Z.toArray rfl rfl 30 Z.toArray HD.out (by rw [info30]; simp [HZ.out.1]) rfl HZ.out.2 ?_))
  refine bodyPost_ret (results_ct rfl _ _ w.heap.size Z _ rfl rfl HD.out.setRow HZ.out.1) rfl ?_
  exact ⟨rfl, HA.out.trans (below_setRow (Nat.le_refl _))⟩
theorem get_not (w : World) (cb : Nat) (s : Cs) (h : CA w cb s) (key : Int) (hk : ∀ x, fk (allI s.R) key = some x → x.d = none) :
    Calls Try.prog 12 #[.pointer (some ⟨cb, 0, none⟩), .int .i64 key] w fun e w' => e = .returned (.tuple #[.agg (blk 0).toArray, .int .i64 5]) ∧ Below w.heap.size w w' := by
  cases hf : fk (allI s.R) key with
  | none => exact get_none_at (blk 0) zero30 built30 (Lib.hid (blk_one 0)) w cb s h key hf
  | some x => exact get_ghost_at (blk 0) zero30 built30 (Lib.hid (blk_one 0)) w cb s h key x hf (hk x hf)
end Go.Proofs.Ytefjpljjdjecjaa
