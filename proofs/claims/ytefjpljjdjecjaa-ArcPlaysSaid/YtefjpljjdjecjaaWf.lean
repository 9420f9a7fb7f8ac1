/- meet: a key that stands in no row. -/
import Derived.Test.YtefjpljjdjecjaaWe
namespace Go.Proofs.Ytefjpljjdjecjaa
open Go.RowKit
theorem Goes.trans {cb : Nat} {s s1 s2 : Cs} {w w1 w2 : World} {e1 e2 : Ending} (h1 : Goes cb s s1 w e1 w1) (h2 : Goes cb s1 s2 w1 e2 w2) : Goes cb s s2 w e2 w2 := by
  obtain ⟨_, _, f1, n1⟩ := h1
  obtain ⟨e, c, f2, n2⟩ := h2
  refine ⟨e, c, ⟨f2.os.trans f1.os, f2.tape.trans f1.tape, f2.output.trans f1.output, Nat.le_trans f1.size f2.size, fun k hk hn => ?_⟩, fun k hk => ?_⟩
  · refine (f2.block k (Nat.lt_of_lt_of_le hk f1.size) fun h => ?_).trans (f1.block k hk hn)
    rcases n1 k h with h | h
    · exact hn h
    · omega
  · rcases n2 k hk with h | h
    · exact n1 k h
    · exact .inr (Nat.le_trans f1.size h)
theorem attach_val (w : World) (cb : Nat) (R : Nat → List It) (m : Value) (room target : Int) (r : Nat) (z : Int) (hz : z = r) (x : It) (a1 a3 a4 : Value) (h : RA w cb R m room target) (hr : r < 4) (hX : RowAt w x.b 73 [.int .i64 x.key, a1, ptr x.d, a3, a4]) (hxc : x.b ≠ cb) (hxR : ∀ y ∈ allI R, y.b ≠ x.b) (hl : (R r).length < 100000) :
    Calls Try.prog 33 #[.pointer (some ⟨cb, 0, none⟩), .int .i64 z, .pointer (some ⟨x.b, 0, none⟩)] w (AttPost cb R m room target r x w) := by
  subst hz; exact attach_any w cb R m room target h r hr x a1 a3 a4 hX hxc hxR hl
/-- No block of a cache, its data or its map is new. -/
theorem CA.lt {w : World} {cb : Nat} {s : Cs} (h : CA w cb s) {k : Nat} (hk : Own cb s k) : k < w.heap.size := by
  rcases hk with rfl | rfl | ⟨x, hx, rfl⟩
  · exact h.ra.row.lt
  · exact h.mp.lt
  · obtain ⟨r, hr, hx⟩ := mem_allI.1 hx
    obtain ⟨p, n, hR⟩ := (h.ra.lk r hr).mem hx
    exact hR.lt
def putNew (s : Cs) (x : It) : Cs := setR s (upd s.R 0 (s.R 0 ++ [x]))
/-- The new item's way into memory, in words. -/
theorem putNew_goes {w w2 w3 : World} {cb : Nat} {s : Cs} (h : CA w cb s) (x : It) (hxb : x.b = w.heap.size) (hk : fk (allI s.R) x.key = none) (d : Nat) (hd : x.d = some d) (hv : RowAt w d 30 x.v) (hdo : ¬ Own cb s d) (o : Obj)
    (mp : MapAt w2 s.mb (fun j => if j = x.key then some (ptr (some x.b)) else mapOf s.R j)) (hf2 : Fr (· = s.mb) (w.alloc o) w2) (ra3 : RA w3 cb (upd s.R 0 (s.R 0 ++ [x])) (.map (some s.mb)) s.room s.target) (hf3 : Fr (RM cb (x :: s.R 0)) w2 w3) : Goes cb s (putNew s x) w (.returned (.tuple #[])) w3 := by
  have hp : (allI (upd s.R 0 (s.R 0 ++ [x]))).Perm (x :: allI s.R) := by
    have := allI_ins (R := s.R) (r := 0) (by decide) (s.R 0) x []
    rwa [List.append_nil, upd_self] at this
  have hkn : ∀ y ∈ allI s.R, y.key ≠ x.key := by
    intro y hy e
    unfold fk at hk
    rw [List.find?_eq_none] at hk
    exact hk y hy (by simpa using e)
  have hnk : ((allI (upd s.R 0 (s.R 0 ++ [x]))).map (·.key)).Nodup := by
    rw [(hp.map (·.key)).nodup_iff, List.map_cons, List.nodup_cons]
    refine ⟨fun hm => ?_, h.nk⟩
    obtain ⟨y, hy, e⟩ := List.mem_map.1 hm
    exact hkn y hy e
  have hmem : ∀ y ∈ allI (upd s.R 0 (s.R 0 ++ [x])), y = x ∨ y ∈ allI s.R := fun y hy => List.mem_cons.1 (hp.mem_iff.1 hy)
  have hfr : Fresh cb s (putNew s x) w := by
    rintro k (e | e | ⟨y, hy, e⟩)
    · exact .inl (.inl e)
    · exact .inl (.inr (.inl e))
    · rcases hmem y hy with rfl | hy
      · exact .inr (by omega)
      · exact .inl (.inr (.inr ⟨y, hy, e⟩))
  have hmx : s.mb < w.heap.size := h.mp.lt
  have hfo : Fr (Own cb s) w w3 := by
    have f1 : Fr (Own cb s) w (w.alloc o) := (Fr.refl _ _).alloc o
    have f2 := f1.trans (hf2.mono fun k _ (e : k = s.mb) => (.inr (.inl e) : Own cb s k))
    refine ⟨hf3.os.trans f2.os, hf3.tape.trans f2.tape, hf3.output.trans f2.output, Nat.le_trans f2.size hf3.size, fun k hk hn => ?_⟩
    refine (hf3.block k (Nat.lt_of_lt_of_le hk f2.size) ?_).trans (f2.block k hk hn)
    rintro (e | ⟨y, hy, e⟩)
    · exact hn (.inl e)
    · rcases List.mem_cons.1 hy with rfl | hy
      · omega
      · exact hn (.inr (.inr ⟨y, mem_allI.2 ⟨0, by decide, hy⟩, e⟩))
  refine ⟨rfl, ⟨ra3, ?_, hnk, h.mc, fun y hy => ?_, ?_, h.rm, h.tg⟩, hfo, hfr⟩
  · refine (mp.fr hf3 ?_).ext fun k => ?_
    · rintro (e | ⟨y, hy, e⟩)
      · exact h.mc e
      · rcases List.mem_cons.1 hy with rfl | hy
        · omega
        · exact h.mi y (mem_allI.2 ⟨0, by decide, hy⟩) e
    · show _ = (fk (allI (upd s.R 0 (s.R 0 ++ [x]))) k).map _
      rw [fk_perm hp hnk, fk_cons]
      by_cases e : k = x.key
      · subst e; simp
      · rw [if_neg e, if_neg (Ne.symm e)]; rfl
  · rcases hmem y hy with rfl | hy
    · show y.b ≠ s.mb; omega
    · exact h.mi y hy
  · intro y hy d' hd'
    rcases hmem y hy with rfl | hy
    · rw [hd] at hd'; cases hd'
      refine ⟨hv.fr hfo hdo, fun hh => ?_⟩
      rcases hfr _ hh with h2 | h2
      · exact hdo h2
      · have := hv.lt; omega
    · obtain ⟨g1, g2⟩ := h.dt y hy d' hd'
      refine ⟨g1.fr hfo g2, fun hh => ?_⟩
      rcases hfr _ hh with h2 | h2
      · exact g2 h2
      · have := g1.lt; omega
def all4 (s : Cs) : Int := (s.R 0).length + (s.R 1).length + (s.R 2).length + (s.R 3).length
def meetPre (s : Cs) : Cs :=
  if s.room ≤ ((s.R 0).length : Int) + (s.R 2).length then (if ((s.R 0).length : Int) < s.room then roomF (forgetF s 2) false else forgetF s 0)
  else if s.room ≤ all4 s then roomF (if 2 * s.room ≤ all4 s then forgetF s 3 else s) false else s
def Small (s : Cs) : Prop := ∀ r, r < 4 → (s.R r).length ≤ 5000
theorem upd_len {R : Nat → List It} {r : Nat} {L : List It} {n : Nat} (h : ∀ i, i < 4 → (R i).length ≤ n) (hL : L.length ≤ n) : ∀ i, i < 4 → (upd R r L i).length ≤ n := by
  intro i hi
  unfold upd
  split
  · exact hL
  · exact h i hi
theorem forget_len {s : Cs} {n : Nat} (h : ∀ i, i < 4 → (s.R i).length ≤ n) (r : Nat) (hr : r < 4) : ∀ i, i < 4 → ((forgetF s r).R i).length ≤ n :=
  upd_len h (by have := h r hr; simp; omega)
theorem ghost_len {s : Cs} {n : Nat} (h : ∀ i, i < 4 → (s.R i).length ≤ n) (f g : Nat) (hf : f < 4) (hg : g < 4) : ∀ i, i < 4 → ((ghostF s f g).R i).length ≤ n + 1 := by
  intro i hi
  unfold ghostF
  cases hR : s.R f with
  | nil => have := h i hi; simp only; omega
  | cons x L =>
    have h1 := h f hf
    rw [hR] at h1
    have h2 := h g hg
    refine upd_len (upd_len (fun i hi => by have := h i hi; omega) (by simp at h1; omega)) (by simp; omega) i hi
theorem room_len {s : Cs} {n : Nat} (h : ∀ i, i < 4 → (s.R i).length ≤ n) (g : Bool) : ∀ i, i < 4 → ((roomF s g).R i).length ≤ n + 1 := by
  intro i hi
  unfold roomF
  split
  · have := h i hi; omega
  · split
    · exact ghost_len h 0 2 (by decide) (by decide) i hi
    · exact ghost_len h 1 3 (by decide) (by decide) i hi

def KS (s s' : Cs) : Prop := ∀ y ∈ allI s'.R, ∃ z ∈ allI s.R, z.key = y.key
theorem KS.refl (s : Cs) : KS s s := fun y hy => ⟨y, hy, rfl⟩
theorem KS.trans {a b c : Cs} (h : KS a b) (k : KS b c) : KS a c := fun y hy => by
  obtain ⟨z, hz, e⟩ := k y hy
  obtain ⟨u, hu, e'⟩ := h z hz
  exact ⟨u, hu, e'.trans e⟩
theorem mem_upd {R : Nat → List It} {r : Nat} {L : List It} {y : It} (h : y ∈ allI (upd R r L)) : y ∈ L ∨ y ∈ allI R := by
  obtain ⟨i, hi, hy⟩ := mem_allI.1 h
  unfold upd at hy
  split at hy
  · exact .inl hy
  · exact .inr (mem_allI.2 ⟨i, hi, hy⟩)
theorem KS.forget (s : Cs) (r : Nat) (hr : r < 4) : KS s (forgetF s r) := fun y hy => by
  rcases mem_upd hy with h | h
  · exact ⟨y, mem_allI.2 ⟨r, hr, List.mem_of_mem_tail h⟩, rfl⟩
  · exact ⟨y, h, rfl⟩
theorem KS.ghost (s : Cs) (f g : Nat) (hf : f < 4) (hg : g < 4) : KS s (ghostF s f g) := fun y hy => by
  unfold ghostF at hy
  cases hR : s.R f with
  | nil => rw [hR] at hy; exact ⟨y, hy, rfl⟩
  | cons x L =>
    rw [hR] at hy
    have hx : ∀ z ∈ x :: L, z ∈ allI s.R := fun z hz => mem_allI.2 ⟨f, hf, by rw [hR]; exact hz⟩
    rcases mem_upd hy with h | h
    · rcases List.mem_append.1 h with h | h
      · exact ⟨y, mem_allI.2 ⟨g, hg, h⟩, rfl⟩
      · simp at h; subst h; exact ⟨x, hx x (List.mem_cons_self ..), rfl⟩
    · rcases mem_upd h with h | h
      · exact ⟨y, hx y (List.mem_cons_of_mem _ h), rfl⟩
      · exact ⟨y, h, rfl⟩
theorem KS.room (s : Cs) (g : Bool) : KS s (roomF s g) := by
  unfold roomF
  split
  · exact KS.refl s
  · split
    · exact KS.ghost s 0 2 (by decide) (by decide)
    · exact KS.ghost s 1 3 (by decide) (by decide)
theorem KS.none {s s' : Cs} (h : KS s s') {k : Int} (hk : fk (allI s.R) k = Option.none) : fk (allI s'.R) k = Option.none := by
  unfold fk at *
  rw [List.find?_eq_none] at *
  intro y hy e
  obtain ⟨z, hz, e'⟩ := h y hy
  exact hk z hz (by rw [e']; exact e)
theorem room_room (s : Cs) (g : Bool) : (roomF s g).room = s.room ∧ (roomF s g).target = s.target ∧ (roomF s g).mb = s.mb := by
  unfold roomF ghostF
  split
  · exact ⟨rfl, rfl, rfl⟩
  · split
    · split <;> exact ⟨rfl, rfl, rfl⟩
    · split <;> exact ⟨rfl, rfl, rfl⟩

def MeetPost (cb : Nat) (s s1 : Cs) (key : Int) (d : Nat) (v : List Value) (w : World) (e : Ending) (w' : World) : Prop := ∃ xb, w.heap.size ≤ xb ∧ Goes cb s (putNew s1 ⟨xb, key, some d, v⟩) w e w'
set_option maxHeartbeats 4000000 in
theorem meet_go (w : World) (cb : Nat) (s s1 : Cs) (h : CA w cb s) (hs : Small s) (key : Int) (hk : fk (allI s.R) key = none) (d : Nat) (v : List Value) (hv : RowAt w d 30 v) (hdo : ¬ Own cb s d)
    (t1 t2 b1 b2 room : Int) (H1 : Hid (t1 = (s.R 0).length)) (H2 : Hid (t2 = (s.R 1).length)) (H3 : Hid (b1 = (s.R 2).length)) (H4 : Hid (b2 = (s.R 3).length)) (hroom : room = s.room) (r1 : 1 ≤ room) (r2 : room ≤ 1024)
    (h10 : 0 ≤ t1) (h11 : t1 ≤ 100000) (h20 : 0 ≤ t2) (h21 : t2 ≤ 100000) (h30 : 0 ≤ b1) (h31 : b1 ≤ 100000) (h40 : 0 ≤ b2) (h41 : b2 ≤ 100000)
    (c : (room ≤ t1 + b1 ∧ t1 < room ∧ s1 = roomF (forgetF s 2) false) ∨ (room ≤ t1 + b1 ∧ room ≤ t1 ∧ s1 = forgetF s 0) ∨ (t1 + b1 < room ∧ room ≤ t1 + t2 + b1 + b2 ∧ 2 * room ≤ t1 + t2 + b1 + b2 ∧ s1 = roomF (forgetF s 3) false) ∨
      (t1 + b1 < room ∧ room ≤ t1 + t2 + b1 + b2 ∧ t1 + t2 + b1 + b2 < 2 * room ∧ s1 = roomF s false) ∨ (t1 + b1 < room ∧ t1 + t2 + b1 + b2 < room ∧ s1 = s)) :
    Calls Try.prog 39 #[.pointer (some ⟨cb, 0, none⟩), .int .i64 key, .pointer (some ⟨d, 0, none⟩)] w (MeetPost cb s s1 key d v w) := by
  have H := Lib.hid h
  have HK := Lib.hid hk
  have HV := Lib.hid hv
  have HS := Lib.hid hs
  have HC := Lib.hid c
  have hdl := hv.lt
  clear h hk hv hs c
  go_enter Try.func39, Try.ntmps39
  go_wp2_with fail
  refine wp_region_parts (by kernel_rfl) (by kernel_rfl) ?_
  have hb0 : Below w.heap.size w w.drew := (Below.refl _ _).drew
  generalize w.drew = W at *
  apply regL_lq W.heap.size
  intro D hD hn
  have raX := fun x : Bd W.heap.size W D => Lib.hid (H.out.ra.nextb (bt hb0 x.ok))
  repeat (apply wpLQ_pin rfl rfl; intro K hK; go_big_quiet_op; (first | go_big_quiet_on | go_big_quiet_call (first | (go_at_call 40; with_reducible exact Calls.bds _ (size_val _ cb s.R _ _ _ 0 0 t1 (by decide) rfl H1.out (raX _).out)) | (go_at_call 40; with_reducible exact Calls.bds _ (size_val _ cb s.R _ _ _ 1 1 t2 (by decide) rfl H2.out (raX _).out)))); apply And.intro rfl)
  apply wpLQ_nil (by simp)
  intro W1 hb _
  clear raX hn hD
  replace hb := bt hb0 hb
  clear hb0
  go_wp2_with fail
  refine wp_region_parts (by kernel_rfl) (by kernel_rfl) ?_
  replace hb := hb.drew
  generalize W1.drew = W2 at *
  apply regL_lq W2.heap.size
  intro D hD hn
  have raX := fun x : Bd W2.heap.size W2 D => Lib.hid (H.out.ra.nextb (bt hb x.ok))
  repeat (apply wpLQ_pin rfl rfl; intro K hK; go_big_quiet_op; (first | go_big_quiet_on | go_big_quiet_call (first | (go_at_call 40; with_reducible exact Calls.bds _ (size_val _ cb s.R _ _ _ 2 2 b1 (by decide) rfl H3.out (raX _).out)) | (go_at_call 40; with_reducible exact Calls.bds _ (size_val _ cb s.R _ _ _ 3 3 b2 (by decide) rfl H4.out (raX _).out)))); apply And.intro rfl)
  apply wpLQ_nil (by simp)
  intro W3 hb3 _
  clear raX hn hD
  replace hb := bt hb hb3
  clear hb3
  have HA := Lib.hid (H.out.nextb hb)
  have c13 : W3.cell? ⟨cb, 13, none⟩ = some (.int .i64 room) := by rw [hroom]; exact HA.out.ra.row.cell 13
  have HG0 : Hid (Goes cb s s w (.returned (.tuple #[])) W3) := Lib.hid ⟨rfl, HA.out, Fr.of_below hb, fun k hk => .inl hk⟩
  have HRM := Lib.hid hroom
  clear hb hroom
  rcases HC.out with ⟨d1, d2, e⟩ | ⟨d1, d2, e⟩ | ⟨d1, d2, d3, e⟩ | ⟨d1, d2, d3, e⟩ | ⟨d1, d2, e⟩
  · have HE := Lib.hid e
    clear e HC
    have q1 : decide (room ≤ t1 + b1) = true := by simp; omega
    have q2 : decide (t1 < room) = true := by simp; omega
    go_wp2_with fail
    refine (forget_val _ cb s 2 2 rfl HG0.out.2.1 (by decide)).mono ?_
    rintro e w4 hg
    have HG1 := Lib.hid (HG0.out.trans hg)
    obtain rfl := hg.1
    clear hg
    clear c13
    go_wp2_with fail
    refine (room_any _ cb (forgetF s 2) false HG1.out.2.1 (by have := forget_len HS.out 2 (by decide) 2 (by decide); omega) (by have := forget_len HS.out 2 (by decide) 3 (by decide); omega)).mono ?_
    rintro e w5 hg
    have HG2 := Lib.hid (HG1.out.trans hg)
    obtain rfl := hg.1
    clear hg
    have HX : Hid (Goes cb s s1 w (.returned (.tuple #[])) w5) := Lib.hid (by rw [HE.out]; exact HG2.out)
    have HKS : Hid (KS s s1) := Lib.hid (by rw [HE.out]; exact (KS.forget s 2 (by decide)).trans (KS.room _ _))
    have HL : Hid ((s1.R 0).length ≤ 5001) := Lib.hid (by rw [HE.out]; exact room_len (forget_len HS.out 2 (by decide)) false 0 (by decide))
    clear HG0 HG1 HG2 HE HA
    have ca := HX.out.2.1
    have p12 : w5.cell? ⟨cb, 12, none⟩ = some (.map (some s1.mb)) := ca.ra.row.cell 12
    have cbl : cb < w5.heap.size := ca.ra.row.lt
    have hkn := HKS.out.none HK.out
    have hal := (Below.refl w5.heap.size w5).alloc (Nat.le_refl _) (.cells #[.int .i64 key, .int .i64 0, .pointer (some ⟨d, 0, none⟩), .pointer none, .pointer none] 73)
    have ca2 := ca.nextb hal
    have hXn : RowAt (w5.alloc (.cells #[.int .i64 key, .int .i64 0, .pointer (some ⟨d, 0, none⟩), .pointer none, .pointer none] 73)) w5.heap.size 73 [.int .i64 key, .int .i64 0, .pointer (some ⟨d, 0, none⟩), .pointer none, .pointer none] := RowAt.new w5 73 _
    obtain ⟨U, hrun, mp, hf2, _⟩ := run_upd (P := Try.prog) ca2.mp Try.underlying61 Try.underlying3 key (.pointer (some ⟨w5.heap.size, 0, none⟩))
    have HR := Lib.hid hrun
    have HX2 := Lib.hid hXn
    have HM := Lib.hid mp
    have HF2 := Lib.hid hf2
    have HCA := Lib.hid ca
    have HCA2 := Lib.hid ca2
    have HKN := Lib.hid hkn
    clear hrun hXn mp hf2 ca ca2 hkn hal
    go_wp2_with (at_mapUpdate; refine wpList_upd rfl rfl rfl rfl rfl HR.out ?_)
    have hlt : ∀ k, Own cb s1 k → k < w5.heap.size := fun k hk => HCA.out.lt hk
    have hne : ∀ k, Own cb s1 k → w5.heap.size ≠ k := fun k hk => by have := hlt k hk; omega
    refine (attach_val U cb s1.R _ _ _ 0 0 rfl ⟨w5.heap.size, key, some d, v⟩ _ _ _ (HCA2.out.ra.fr HF2.out (Ne.symm HCA.out.mc) (fun y hy => HCA.out.mi y hy)) (by decide) (HX2.out.fr HF2.out (hne _ (.inr (.inl rfl)))) (hne _ (.inl rfl)) (fun y hy => Ne.symm (hne _ (.inr (.inr ⟨y, hy, rfl⟩)))) (by have := HL.out; omega)).mono ?_
    rintro e u ⟨rfl, ra3, hf3⟩
    go_wp2
    go_end0
    have hdo1 : ¬ Own cb s1 d := fun hh => by
      rcases HX.out.2.2.2 d hh with h2 | h2
      · exact hdo h2
      · omega
    have hg := putNew_goes HCA.out ⟨w5.heap.size, key, some d, v⟩ rfl HKN.out d rfl (HV.out.fr HX.out.2.2.1 hdo) hdo1 _ HM.out HF2.out ra3 hf3
    exact ⟨_, HX.out.2.2.1.size, HX.out.trans hg⟩
  · have HE := Lib.hid e
    clear e HC
    have q1 : decide (room ≤ t1 + b1) = true := by simp; omega
    have q2 : decide (t1 < room) = false := by simp; omega
    go_wp2_with fail
    refine (forget_val _ cb s 0 0 rfl HG0.out.2.1 (by decide)).mono ?_
    rintro e w4 hg
    have HG1 := Lib.hid (HG0.out.trans hg)
    obtain rfl := hg.1
    clear hg
    clear c13
    have HX : Hid (Goes cb s s1 w (.returned (.tuple #[])) w4) := Lib.hid (by rw [HE.out]; exact HG1.out)
    have HKS : Hid (KS s s1) := Lib.hid (by rw [HE.out]; exact KS.forget s 0 (by decide))
    have HL : Hid ((s1.R 0).length ≤ 5001) := Lib.hid (by rw [HE.out]; exact (Nat.le_succ_of_le (forget_len HS.out 0 (by decide) 0 (by decide))))
    clear HG0 HG1 HE HA
    have ca := HX.out.2.1
    have p12 : w4.cell? ⟨cb, 12, none⟩ = some (.map (some s1.mb)) := ca.ra.row.cell 12
    have cbl : cb < w4.heap.size := ca.ra.row.lt
    have hkn := HKS.out.none HK.out
    have hal := (Below.refl w4.heap.size w4).alloc (Nat.le_refl _) (.cells #[.int .i64 key, .int .i64 0, .pointer (some ⟨d, 0, none⟩), .pointer none, .pointer none] 73)
    have ca2 := ca.nextb hal
    have hXn : RowAt (w4.alloc (.cells #[.int .i64 key, .int .i64 0, .pointer (some ⟨d, 0, none⟩), .pointer none, .pointer none] 73)) w4.heap.size 73 [.int .i64 key, .int .i64 0, .pointer (some ⟨d, 0, none⟩), .pointer none, .pointer none] := RowAt.new w4 73 _
    obtain ⟨U, hrun, mp, hf2, _⟩ := run_upd (P := Try.prog) ca2.mp Try.underlying61 Try.underlying3 key (.pointer (some ⟨w4.heap.size, 0, none⟩))
    have HR := Lib.hid hrun
    have HX2 := Lib.hid hXn
    have HM := Lib.hid mp
    have HF2 := Lib.hid hf2
    have HCA := Lib.hid ca
    have HCA2 := Lib.hid ca2
    have HKN := Lib.hid hkn
    clear hrun hXn mp hf2 ca ca2 hkn hal
    go_wp2_with (at_mapUpdate; refine wpList_upd rfl rfl rfl rfl rfl HR.out ?_)
    have hlt : ∀ k, Own cb s1 k → k < w4.heap.size := fun k hk => HCA.out.lt hk
    have hne : ∀ k, Own cb s1 k → w4.heap.size ≠ k := fun k hk => by have := hlt k hk; omega
    refine (attach_val U cb s1.R _ _ _ 0 0 rfl ⟨w4.heap.size, key, some d, v⟩ _ _ _ (HCA2.out.ra.fr HF2.out (Ne.symm HCA.out.mc) (fun y hy => HCA.out.mi y hy)) (by decide) (HX2.out.fr HF2.out (hne _ (.inr (.inl rfl)))) (hne _ (.inl rfl)) (fun y hy => Ne.symm (hne _ (.inr (.inr ⟨y, hy, rfl⟩)))) (by have := HL.out; omega)).mono ?_
    rintro e u ⟨rfl, ra3, hf3⟩
    go_wp2
    go_end0
    have hdo1 : ¬ Own cb s1 d := fun hh => by
      rcases HX.out.2.2.2 d hh with h2 | h2
      · exact hdo h2
      · omega
    have hg := putNew_goes HCA.out ⟨w4.heap.size, key, some d, v⟩ rfl HKN.out d rfl (HV.out.fr HX.out.2.2.1 hdo) hdo1 _ HM.out HF2.out ra3 hf3
    exact ⟨_, HX.out.2.2.1.size, HX.out.trans hg⟩
  · have HE := Lib.hid e
    clear e HC
    have q1 : decide (room ≤ t1 + b1) = false := by simp; omega
    have q2 : decide (room ≤ t1 + t2 + b1 + b2) = true := by simp; omega
    have q3 : decide (2 * room ≤ t1 + t2 + b1 + b2) = true := by simp; omega
    go_wp2_with fail
    refine (forget_val _ cb s 3 3 rfl HG0.out.2.1 (by decide)).mono ?_
    rintro e w4 hg
    have HG1 := Lib.hid (HG0.out.trans hg)
    obtain rfl := hg.1
    clear hg
    clear c13
    go_wp2_with fail
    refine (room_any _ cb (forgetF s 3) false HG1.out.2.1 (by have := forget_len HS.out 3 (by decide) 2 (by decide); omega) (by have := forget_len HS.out 3 (by decide) 3 (by decide); omega)).mono ?_
    rintro e w5 hg
    have HG2 := Lib.hid (HG1.out.trans hg)
    obtain rfl := hg.1
    clear hg
    have HX : Hid (Goes cb s s1 w (.returned (.tuple #[])) w5) := Lib.hid (by rw [HE.out]; exact HG2.out)
    have HKS : Hid (KS s s1) := Lib.hid (by rw [HE.out]; exact (KS.forget s 3 (by decide)).trans (KS.room _ _))
    have HL : Hid ((s1.R 0).length ≤ 5001) := Lib.hid (by rw [HE.out]; exact room_len (forget_len HS.out 3 (by decide)) false 0 (by decide))
    clear HG0 HG1 HG2 HE HA
    have ca := HX.out.2.1
    have p12 : w5.cell? ⟨cb, 12, none⟩ = some (.map (some s1.mb)) := ca.ra.row.cell 12
    have cbl : cb < w5.heap.size := ca.ra.row.lt
    have hkn := HKS.out.none HK.out
    have hal := (Below.refl w5.heap.size w5).alloc (Nat.le_refl _) (.cells #[.int .i64 key, .int .i64 0, .pointer (some ⟨d, 0, none⟩), .pointer none, .pointer none] 73)
    have ca2 := ca.nextb hal
    have hXn : RowAt (w5.alloc (.cells #[.int .i64 key, .int .i64 0, .pointer (some ⟨d, 0, none⟩), .pointer none, .pointer none] 73)) w5.heap.size 73 [.int .i64 key, .int .i64 0, .pointer (some ⟨d, 0, none⟩), .pointer none, .pointer none] := RowAt.new w5 73 _
    obtain ⟨U, hrun, mp, hf2, _⟩ := run_upd (P := Try.prog) ca2.mp Try.underlying61 Try.underlying3 key (.pointer (some ⟨w5.heap.size, 0, none⟩))
    have HR := Lib.hid hrun
    have HX2 := Lib.hid hXn
    have HM := Lib.hid mp
    have HF2 := Lib.hid hf2
    have HCA := Lib.hid ca
    have HCA2 := Lib.hid ca2
    have HKN := Lib.hid hkn
    clear hrun hXn mp hf2 ca ca2 hkn hal
    go_wp2_with (at_mapUpdate; refine wpList_upd rfl rfl rfl rfl rfl HR.out ?_)
    have hlt : ∀ k, Own cb s1 k → k < w5.heap.size := fun k hk => HCA.out.lt hk
    have hne : ∀ k, Own cb s1 k → w5.heap.size ≠ k := fun k hk => by have := hlt k hk; omega
    refine (attach_val U cb s1.R _ _ _ 0 0 rfl ⟨w5.heap.size, key, some d, v⟩ _ _ _ (HCA2.out.ra.fr HF2.out (Ne.symm HCA.out.mc) (fun y hy => HCA.out.mi y hy)) (by decide) (HX2.out.fr HF2.out (hne _ (.inr (.inl rfl)))) (hne _ (.inl rfl)) (fun y hy => Ne.symm (hne _ (.inr (.inr ⟨y, hy, rfl⟩)))) (by have := HL.out; omega)).mono ?_
    rintro e u ⟨rfl, ra3, hf3⟩
    go_wp2
    go_end0
    have hdo1 : ¬ Own cb s1 d := fun hh => by
      rcases HX.out.2.2.2 d hh with h2 | h2
      · exact hdo h2
      · omega
    have hg := putNew_goes HCA.out ⟨w5.heap.size, key, some d, v⟩ rfl HKN.out d rfl (HV.out.fr HX.out.2.2.1 hdo) hdo1 _ HM.out HF2.out ra3 hf3
    exact ⟨_, HX.out.2.2.1.size, HX.out.trans hg⟩
  · have HE := Lib.hid e
    clear e HC
    have q1 : decide (room ≤ t1 + b1) = false := by simp; omega
    have q2 : decide (room ≤ t1 + t2 + b1 + b2) = true := by simp; omega
    have q3 : decide (2 * room ≤ t1 + t2 + b1 + b2) = false := by simp; omega
    go_wp2_with fail
    refine (room_any _ cb s false HG0.out.2.1 (by have := HS.out 2 (by decide); omega) (by have := HS.out 3 (by decide); omega)).mono ?_
    rintro e w4 hg
    have HG1 := Lib.hid (HG0.out.trans hg)
    obtain rfl := hg.1
    clear hg
    clear c13
    have HX : Hid (Goes cb s s1 w (.returned (.tuple #[])) w4) := Lib.hid (by rw [HE.out]; exact HG1.out)
    have HKS : Hid (KS s s1) := Lib.hid (by rw [HE.out]; exact KS.room _ _)
    have HL : Hid ((s1.R 0).length ≤ 5001) := Lib.hid (by rw [HE.out]; exact room_len HS.out false 0 (by decide))
    clear HG0 HG1 HE HA
    have ca := HX.out.2.1
    have p12 : w4.cell? ⟨cb, 12, none⟩ = some (.map (some s1.mb)) := ca.ra.row.cell 12
    have cbl : cb < w4.heap.size := ca.ra.row.lt
    have hkn := HKS.out.none HK.out
    have hal := (Below.refl w4.heap.size w4).alloc (Nat.le_refl _) (.cells #[.int .i64 key, .int .i64 0, .pointer (some ⟨d, 0, none⟩), .pointer none, .pointer none] 73)
    have ca2 := ca.nextb hal
    have hXn : RowAt (w4.alloc (.cells #[.int .i64 key, .int .i64 0, .pointer (some ⟨d, 0, none⟩), .pointer none, .pointer none] 73)) w4.heap.size 73 [.int .i64 key, .int .i64 0, .pointer (some ⟨d, 0, none⟩), .pointer none, .pointer none] := RowAt.new w4 73 _
    obtain ⟨U, hrun, mp, hf2, _⟩ := run_upd (P := Try.prog) ca2.mp Try.underlying61 Try.underlying3 key (.pointer (some ⟨w4.heap.size, 0, none⟩))
    have HR := Lib.hid hrun
    have HX2 := Lib.hid hXn
    have HM := Lib.hid mp
    have HF2 := Lib.hid hf2
    have HCA := Lib.hid ca
    have HCA2 := Lib.hid ca2
    have HKN := Lib.hid hkn
    clear hrun hXn mp hf2 ca ca2 hkn hal
    go_wp2_with (at_mapUpdate; refine wpList_upd rfl rfl rfl rfl rfl HR.out ?_)
    have hlt : ∀ k, Own cb s1 k → k < w4.heap.size := fun k hk => HCA.out.lt hk
    have hne : ∀ k, Own cb s1 k → w4.heap.size ≠ k := fun k hk => by have := hlt k hk; omega
    refine (attach_val U cb s1.R _ _ _ 0 0 rfl ⟨w4.heap.size, key, some d, v⟩ _ _ _ (HCA2.out.ra.fr HF2.out (Ne.symm HCA.out.mc) (fun y hy => HCA.out.mi y hy)) (by decide) (HX2.out.fr HF2.out (hne _ (.inr (.inl rfl)))) (hne _ (.inl rfl)) (fun y hy => Ne.symm (hne _ (.inr (.inr ⟨y, hy, rfl⟩)))) (by have := HL.out; omega)).mono ?_
    rintro e u ⟨rfl, ra3, hf3⟩
    go_wp2
    go_end0
    have hdo1 : ¬ Own cb s1 d := fun hh => by
      rcases HX.out.2.2.2 d hh with h2 | h2
      · exact hdo h2
      · omega
    have hg := putNew_goes HCA.out ⟨w4.heap.size, key, some d, v⟩ rfl HKN.out d rfl (HV.out.fr HX.out.2.2.1 hdo) hdo1 _ HM.out HF2.out ra3 hf3
    exact ⟨_, HX.out.2.2.1.size, HX.out.trans hg⟩
  · have HE := Lib.hid e
    clear e HC
    have q1 : decide (room ≤ t1 + b1) = false := by simp; omega
    have q2 : decide (room ≤ t1 + t2 + b1 + b2) = false := by simp; omega
    have HX : Hid (Goes cb s s1 w (.returned (.tuple #[])) W3) := Lib.hid (by rw [HE.out]; exact HG0.out)
    have HKS : Hid (KS s s1) := Lib.hid (by rw [HE.out]; exact KS.refl _)
    have HL : Hid ((s1.R 0).length ≤ 5001) := Lib.hid (by rw [HE.out]; exact (Nat.le_succ_of_le (HS.out 0 (by decide))))
    clear HG0 HE HA
    have ca := HX.out.2.1
    have p12 : W3.cell? ⟨cb, 12, none⟩ = some (.map (some s1.mb)) := ca.ra.row.cell 12
    have cbl : cb < W3.heap.size := ca.ra.row.lt
    have hkn := HKS.out.none HK.out
    have hal := (Below.refl W3.heap.size W3).alloc (Nat.le_refl _) (.cells #[.int .i64 key, .int .i64 0, .pointer (some ⟨d, 0, none⟩), .pointer none, .pointer none] 73)
    have ca2 := ca.nextb hal
    have hXn : RowAt (W3.alloc (.cells #[.int .i64 key, .int .i64 0, .pointer (some ⟨d, 0, none⟩), .pointer none, .pointer none] 73)) W3.heap.size 73 [.int .i64 key, .int .i64 0, .pointer (some ⟨d, 0, none⟩), .pointer none, .pointer none] := RowAt.new W3 73 _
    obtain ⟨U, hrun, mp, hf2, _⟩ := run_upd (P := Try.prog) ca2.mp Try.underlying61 Try.underlying3 key (.pointer (some ⟨W3.heap.size, 0, none⟩))
    have HR := Lib.hid hrun
    have HX2 := Lib.hid hXn
    have HM := Lib.hid mp
    have HF2 := Lib.hid hf2
    have HCA := Lib.hid ca
    have HCA2 := Lib.hid ca2
    have HKN := Lib.hid hkn
    clear hrun hXn mp hf2 ca ca2 hkn hal
    go_wp2_with (at_mapUpdate; refine wpList_upd rfl rfl rfl rfl rfl HR.out ?_)
    have hlt : ∀ k, Own cb s1 k → k < W3.heap.size := fun k hk => HCA.out.lt hk
    have hne : ∀ k, Own cb s1 k → W3.heap.size ≠ k := fun k hk => by have := hlt k hk; omega
    refine (attach_val U cb s1.R _ _ _ 0 0 rfl ⟨W3.heap.size, key, some d, v⟩ _ _ _ (HCA2.out.ra.fr HF2.out (Ne.symm HCA.out.mc) (fun y hy => HCA.out.mi y hy)) (by decide) (HX2.out.fr HF2.out (hne _ (.inr (.inl rfl)))) (hne _ (.inl rfl)) (fun y hy => Ne.symm (hne _ (.inr (.inr ⟨y, hy, rfl⟩)))) (by have := HL.out; omega)).mono ?_
    rintro e u ⟨rfl, ra3, hf3⟩
    go_wp2
    go_end0
    have hdo1 : ¬ Own cb s1 d := fun hh => by
      rcases HX.out.2.2.2 d hh with h2 | h2
      · exact hdo h2
      · omega
    have hg := putNew_goes HCA.out ⟨W3.heap.size, key, some d, v⟩ rfl HKN.out d rfl (HV.out.fr HX.out.2.2.1 hdo) hdo1 _ HM.out HF2.out ra3 hf3
    exact ⟨_, HX.out.2.2.1.size, HX.out.trans hg⟩
end Go.Proofs.Ytefjpljjdjecjaa
