/- Both caches say the same. -/
import Derived.Test.YtefjpljjdjecjaaYr
namespace Go.Proofs.Ytefjpljjdjecjaa
open Go.RowKit
/-- A slice over an own row of ints. -/
def IntsO (B : Nat) (l : List Int) (v : Value) (w : World) : Prop := w.ownsRow B 3 1 v l.length (l.map I64)
theorem IntsO.at {B : Nat} {l : List Int} {v : Value} {w : World} (h : IntsO B l v w) : IntsAt B l v w := owned_ints (e := 3) h
theorem IntsO.mono {B B' : Nat} {l : List Int} {v : Value} {w : World} (h : IntsO B l v w) (hB : B' ≤ B) : IntsO B' l v w := by
  rcases h.2 with ⟨e, h0⟩ | ⟨g', cap, cur, e, hb, hh, h1⟩
  · exact ⟨h.1, .inl ⟨e, h0⟩⟩
  · exact ⟨h.1, .inr ⟨g', cap, cur, e, Nat.le_trans hB hb, hh, h1⟩⟩
theorem IntsO.next {B : Nat} {l : List Int} {v : Value} {w w' : World} (h : IntsO B l v w) (hb : Below w.heap.size w w') : IntsO B l v w' := by
  rcases h.2 with ⟨e, h0⟩ | ⟨g', cap, cur, e, hB, hh, h1⟩
  · exact ⟨h.1, .inl ⟨e, h0⟩⟩
  · refine ⟨h.1, .inr ⟨g', cap, cur, e, hB, ?_, h1⟩⟩
    rw [hb.block g' (Array.getElem?_eq_some_iff.1 hh).1]
    exact hh
theorem intsO_stable (B : Nat) (l : List Int) : ∀ u, StableF (fun u u' => Below u.heap.size u u') (IntsO B l u) := fun _ _ _ hb h => h.next hb
set_option maxHeartbeats 2000000 in
theorem okeys_any (w : World) (cb : Nat) (R : Nat → List It) (m : Value) (room target : Int) (h : RA w cb R m room target) (r : Nat) (hr : r < 4) :
    Calls Try.prog 31 #[.pointer (some ⟨cb, 0, none⟩), .int .i64 r] w fun e w' => ∃ v, e = .returned v ∧ IntsO w.heap.size (keysL (R r)) v w' ∧ Below w.heap.size w w' := by
  obtain ⟨k0, _, _⟩ := cells_at R m room target r hr
  have c0 := (h.row.cell (r * 3)).trans k0
  have r0 : (0 : Int) ≤ (r : Int) := by omega
  have r1 : (r : Int) < 4 := by omega
  have H := Lib.hid (h.lk r hr)
  have hlen := h.len r hr
  obtain ⟨hd, hhd⟩ : ∃ hd, hd = ptr (nx (R r) none) := ⟨_, rfl⟩
  rw [← hhd] at c0
  have HH := Lib.hid hhd
  clear k0 h hhd
  generalize R r = L at *
  rename_i u1 u2
  clear u1 u2
  go_enter Try.func31, Try.ntmps31
  go_wp2_with fail
  go_loopw [5, 6] (fun l x wr => KInv w L l x wr) (fun l _ _ => L.length - slen l)
  case atStart => exact ⟨[], L, HH.out, rfl, World.ownsRow_nil _ _ _ _, Below.refl _ _⟩
  case round =>
    obtain ⟨L1, L2, hx, hR, hO, hB⟩ := hrel
    have HO := Lib.hid hO
    have HB := Lib.hid hB
    have HR := Lib.hid hR
    clear hO hB hR
    cases L2 with
    | nil =>
      simp only [nx, ptr] at hx
      subst hx
      go_wp2
      go_ret
      have e : L = L1 := by have := HR.out; rwa [List.append_nil] at this
      refine ⟨u5, rfl, ?_, HB.out⟩
      unfold IntsO
      rw [e, show (keysL L1).length = L1.length from by simp [keysL]]
      exact HO.out
    | cons y L3 =>
      simp only [nx, ptr] at hx
      subst hx
      have hrow : RowAt w y.b 73 (itCells y r (lastB L1 none) (nx L3 none)) := by
        have := H.out
        rw [HR.out] at this
        exact this.split
      have hrow2 := hrow.next HB.out
      have hal := (Below.refl wr.heap.size wr).alloc (Nat.le_refl _) (.cells #[.int .i64 y.key] 3)
      have hrow3 := hrow2.next hal
      have y0 := hrow2.cell 0
      simp [itCells] at y0
      have hnew : RowAt (wr.alloc (.cells #[.int .i64 y.key] 3)) wr.heap.size 3 [.int .i64 y.key] := RowAt.new wr 3 _
      obtain ⟨i, z, e1, e2, e3, e4, e5⟩ := info3
      have hll : L1.length + 1 ≤ 100000 := by
        have := congrArg List.length HR.out
        simp at this; omega
      obtain ⟨v', w', hrun, ho', hg', _, hb'⟩ := run_app (P := Try.prog) (wr.alloc (.cells #[.int .i64 y.key] 3)) w.heap.size 33 33 3 i z 8 Try.underlying33 e1 e2 e3 e4 e5 u5 L1.length _ (HO.out.alloc _) (some ⟨wr.heap.size, 0, none⟩) 1 1 [.int .i64 y.key] (SliceAt.row hnew) (fun h => by cases h) (fun u hu => by simp at hu; subst hu; rfl) (by unfold maxLen; omega) (by omega) (by simp; have := HB.out.size; omega)
      have hBw : Below w.heap.size w w' := (HB.out.alloc HB.out.size _).trans hb'
      have hrow4 := hrow.next hBw
      have y4 := hrow4.cell 4
      simp [itCells] at y4
      have HRUN := Lib.hid hrun
      have HO' := Lib.hid ho'
      have HBW := Lib.hid hBw
      obtain ⟨px, hpx⟩ : ∃ px, px = ptr (nx L3 none) := ⟨_, rfl⟩
      rw [← hpx] at y4
      have HPX := Lib.hid hpx
      clear hrow hrow2 hrow3 hrow4 hal hnew hrun ho' hg' hb' hBw e1 e2 e3 e4 e5 hpx
      have HLL := Lib.hid hll
      go_wp2_with (at_builtin; refine wpList_app rfl (.tmp 20) (.tmp 25) 33 33 rfl rfl HRUN.out rfl rfl ?_)
      go_roundw
      case rel =>
        refine ⟨L1 ++ [y], L3, HPX.out, by rw [HR.out]; simp, ?_, HBW.out⟩
        have := HO'.out
        simpa [keysL, I64] using this
      case measure =>
        obtain ⟨a1, c1, rfl, _⟩ := SliceAt.owned HO.out
        obtain ⟨a2, c2, rfl, _⟩ := SliceAt.owned HO'.out
        have := congrArg List.length HR.out
        simp at this
        simp [slen]; omega
theorem okeys_val (w : World) (cb : Nat) (R : Nat → List It) (m : Value) (room target : Int) (h : RA w cb R m room target) (r : Nat) (z : Int) (hz : z = r) (hr : r < 4) :
    Calls Try.prog 31 #[.pointer (some ⟨cb, 0, none⟩), .int .i64 z] w fun e w' => ∃ v, e = .returned v ∧ IntsO w.heap.size (keysL (R r)) v w' ∧ Below w.heap.size w w' := by
  subst hz; exact okeys_any w cb R m room target h r hr
def Rows4O (B : Nat) (R : Nat → List It) (v : Value) (w : World) : Prop := ∃ a b c d, v = .tuple #[a, b, c, d] ∧ IntsO B (keysL (R 0)) a w ∧ IntsO B (keysL (R 1)) b w ∧ IntsO B (keysL (R 2)) c w ∧ IntsO B (keysL (R 3)) d w
set_option maxHeartbeats 2000000 in
theorem orows_any (w : World) (cb : Nat) (s : Cs) (h : CA w cb s) : Calls Try.prog 13 #[.pointer (some ⟨cb, 0, none⟩)] w fun e w' => ∃ v, e = .returned v ∧ Rows4O w.heap.size s.R v w' ∧ Below w.heap.size w w' := by
  have HN := Lib.hid (none_any _ cb s h)
  have H := Lib.hid h.ra
  clear h
  go_enter Try.func13, Try.ntmps13
  go_wp2_with fail
  refine HN.out.mono ?_
  rintro e w1 ⟨rfl, rfl⟩
  go_wp2_with fail
  refine wp_region_parts (by kernel_rfl) (by kernel_rfl) ?_
  have hb0 : Below w.heap.size w w.drew := (Below.refl _ _).drew
  generalize w.drew = W at *
  apply regL_lq W.heap.size
  intro D hD hn
  have raX := fun x : Bd W.heap.size W D => Lib.hid (H.out.nextb (bt hb0 x.ok))
  repeat (apply wpLQ_pin rfl rfl; intro K hK; go_big_quiet_op; go_big_quiet_on; apply And.intro rfl)
  apply wpLQ_loose (IntsO w.heap.size (keysL (s.R 0))) (intsO_stable _ _) (Nat.le_refl _) hD rfl
  · intro x _
    unfold Runs
    go_simp
    refine (okeys_val x.val cb s.R _ _ _ (raX x).out 0 0 rfl (by decide)).mono ?_
    rintro e w1 ⟨v, rfl, hi, hb1⟩
    exact ⟨v, rfl, hi.mono (bt hb0 x.ok).size, hb1⟩
  intro u0
  simp only [Act.put, List.setIfInBounds_toArray, List.set_cons_succ, List.set_cons_zero]
  repeat (apply wpLQ_pin rfl rfl; intro K hK; go_big_quiet_op; go_big_quiet_on; apply And.intro rfl)
  apply wpLQ_loose (IntsO w.heap.size (keysL (s.R 1))) (intsO_stable _ _) (Nat.le_refl _) hD rfl
  · intro x _
    unfold Runs
    go_simp
    refine (okeys_val x.val cb s.R _ _ _ (raX x).out 1 1 rfl (by decide)).mono ?_
    rintro e w1 ⟨v, rfl, hi, hb1⟩
    exact ⟨v, rfl, hi.mono (bt hb0 x.ok).size, hb1⟩
  intro u1
  simp only [Act.put, List.setIfInBounds_toArray, List.set_cons_succ, List.set_cons_zero]
  repeat (apply wpLQ_pin rfl rfl; intro K hK; go_big_quiet_op; go_big_quiet_on; apply And.intro rfl)
  apply wpLQ_loose (IntsO w.heap.size (keysL (s.R 2))) (intsO_stable _ _) (Nat.le_refl _) hD rfl
  · intro x _
    unfold Runs
    go_simp
    refine (okeys_val x.val cb s.R _ _ _ (raX x).out 2 2 rfl (by decide)).mono ?_
    rintro e w1 ⟨v, rfl, hi, hb1⟩
    exact ⟨v, rfl, hi.mono (bt hb0 x.ok).size, hb1⟩
  intro u2
  simp only [Act.put, List.setIfInBounds_toArray, List.set_cons_succ, List.set_cons_zero]
  repeat (apply wpLQ_pin rfl rfl; intro K hK; go_big_quiet_op; go_big_quiet_on; apply And.intro rfl)
  apply wpLQ_loose (IntsO w.heap.size (keysL (s.R 3))) (intsO_stable _ _) (Nat.le_refl _) hD rfl
  · intro x _
    unfold Runs
    go_simp
    refine (okeys_val x.val cb s.R _ _ _ (raX x).out 3 3 rfl (by decide)).mono ?_
    rintro e w1 ⟨v, rfl, hi, hb1⟩
    exact ⟨v, rfl, hi.mono (bt hb0 x.ok).size, hb1⟩
  intro u3
  simp only [Act.put, List.setIfInBounds_toArray, List.set_cons_succ, List.set_cons_zero]
  apply wpLQ_end (bar_of (by kernel_rfl))
  intro W1 hb1 hf
  have i3 := Facts.first hf
  have i2 := Facts.first (Facts.rest hf)
  have i1 := Facts.first (Facts.rest (Facts.rest hf))
  have i0 := Facts.first (Facts.rest (Facts.rest (Facts.rest hf)))
  have HI := Lib.hid (And.intro i0 (And.intro i1 (And.intro i2 i3)))
  have HBB := Lib.hid (bt hb0 hb1)
  clear i0 i1 i2 i3 hf hb1 hb0 raX hn hD
  apply regL_lq W1.heap.size
  intro D hD hn
  repeat (apply wpLQ_pin rfl rfl; intro K hK; go_big_quiet_op; go_big_quiet_on; apply And.intro rfl)
  apply wpLQ_nil (by simp)
  intro W2 hb2 _
  have HB2 := Lib.hid hb2
  clear hb2 hn hD
  go_wp2
  refine bodyPost_ret (by simp [results, Try.results13, go_sem]; rfl) rfl ?_
  exact ⟨_, rfl, ⟨_, _, _, _, rfl, HI.out.1.next HB2.out, HI.out.2.1.next HB2.out, HI.out.2.2.1.next HB2.out, HI.out.2.2.2.next HB2.out⟩, bt HBB.out HB2.out⟩
theorem orows_pa {A : Nat → Prop} (w : World) (cb : Nat) (p : Pu) (h : PA A w cb p) : Calls Try.prog 13 #[.pointer (some ⟨cb, 0, none⟩)] w fun e w' => ∃ a b c d, e = .returned (.tuple #[a, b, c, d]) ∧ (IntsO w.heap.size (ksP p.a) a w' ∧ IntsO w.heap.size (ksP p.b) b w' ∧ IntsO w.heap.size (ksP p.c) c w' ∧ IntsO w.heap.size (ksP p.d) d w') ∧ Below w.heap.size w w' := by
  obtain ⟨s, h1, rfl, _⟩ := h
  refine (orows_any w cb s h1).mono ?_
  rintro e w' ⟨v, rfl, ⟨a, b, c, d, rfl, i1, i2, i3, i4⟩, hb⟩
  refine ⟨a, b, c, d, rfl, ?_, hb⟩
  unfold absS
  simp only [ks_abs]
  exact ⟨i1, i2, i3, i4⟩
set_option maxHeartbeats 8000000 in
set_option maxRecDepth 100000 in
theorem xsame_any {A : Nat → Prop} (w : World) (cb xb : Nat) (p : Pu) (hp : PA A w cb p) (h : XR w xb p) :
    Calls Try.prog 28 #[.pointer (some ⟨cb, 0, none⟩), .pointer (some ⟨xb, 0, none⟩)] w fun e w' => e = .returned (.bool true) ∧ Below w.heap.size w w' := by
  have hw := hp.wf
  have q1 := hw.h1; have q2 := hw.h2; have q3 := hw.h3; have q4 := hw.rm.2
  have la : (ksP p.a).length = p.a.length := by simp [ksP]
  have lb : (ksP p.b).length = p.b.length := by simp [ksP]
  have lc : (ksP p.c).length = p.c.length := by simp [ksP]
  have ld : (ksP p.d).length = p.d.length := by simp [ksP]
  obtain ⟨v1, v2, v3, v4, hv⟩ := h
  have HP := Lib.hid hp
  have HV := Lib.hid hv
  have hxl := hv.row.lt
  have HLN : Hid (p.a.length ≤ 3000 ∧ p.b.length ≤ 3000 ∧ p.c.length ≤ 3000 ∧ p.d.length ≤ 3000) := Lib.hid (by omega)
  have HKL : Hid ((ksP p.a).length = p.a.length ∧ (ksP p.b).length = p.b.length ∧ (ksP p.c).length = p.c.length ∧ (ksP p.d).length = p.d.length) := Lib.hid ⟨la, lb, lc, ld⟩
  clear hp hv hw q1 q2 q3 q4 la lb lc ld
  go_enter Try.func28, Try.ntmps28
  go_wp2_with fail
  refine (orows_pa w cb p HP.out).mono ?_
  rintro e w1 ⟨a, b, c, d, rfl, ⟨i1, i2, i3, i4⟩, hb⟩
  have I1 := Lib.hid i1
  have I2 := Lib.hid i2
  have I3 := Lib.hid i3
  have I4 := Lib.hid i4
  have HB1 := Lib.hid hb
  have HP1 := Lib.hid (HP.out.next hb)
  have HV1 := Lib.hid (HV.out.next hb)
  clear i1 i2 i3 i4 hb HP HV
  go_wp2_with fail
  refine wp_region_parts (by kernel_rfl) (by kernel_rfl) ?_
  have hb0 : Below w1.heap.size w1 w1.drew := (Below.refl _ _).drew
  generalize w1.drew = W at *
  have hxw : xb < w1.heap.size := HV1.out.row.lt
  apply regL_lq W.heap.size
  intro D hD hn
  have p1 := fun z : Bd W.heap.size W D => ((bt hb0 z.ok).cell (p := ⟨xb, 1, none⟩) hxw).trans (HV1.out.row.cell 1)
  have p2 := fun z : Bd W.heap.size W D => ((bt hb0 z.ok).cell (p := ⟨xb, 2, none⟩) hxw).trans (HV1.out.row.cell 2)
  have p3 := fun z : Bd W.heap.size W D => ((bt hb0 z.ok).cell (p := ⟨xb, 3, none⟩) hxw).trans (HV1.out.row.cell 3)
  have p4 := fun z : Bd W.heap.size W D => ((bt hb0 z.ok).cell (p := ⟨xb, 4, none⟩) hxw).trans (HV1.out.row.cell 4)
  have p5 := fun z : Bd W.heap.size W D => ((bt hb0 z.ok).cell (p := ⟨xb, 5, none⟩) hxw).trans (HV1.out.row.cell 5)
  simp only [List.getElem?_cons_succ, List.getElem?_cons_zero] at p1 p2 p3 p4 p5
  iterate 5 (apply wpLQ_pin rfl rfl; intro K hK; go_big_quiet_op; go_big_quiet_on; apply And.intro rfl)
  apply wpLQ_loose (IntsAt 0 (ksP p.a)) (intsAt_stable _ _) (Nat.le_refl _) hD rfl
  · intro x _
    unfold Runs
    go_simp
    refine (rkeys_any x.val _ p.a (HV1.out.next (bt hb0 x.ok)).ha (by have := HLN.out; omega)).mono ?_
    rintro e w2 ⟨u, rfl, hi, hb2⟩
    exact ⟨u, rfl, hi.mono (Nat.zero_le _), hb2⟩
  intro u0
  simp only [Act.put, List.setIfInBounds_toArray, List.set_cons_succ, List.set_cons_zero]
  apply wpLQ_at (.bool true) (Nat.le_refl _) hD rfl
  · intro x hx
    have hi := Facts.head hx (anc_of (by kernel_rfl))
    unfold Runs
    go_simp
    have hs := same_any x.val _ 0 (ksP p.a) (ksP p.a) _ _ (I1.out.next (bt hb0 x.ok)).at hi (by have := HLN.out; have := HKL.out; omega)
    rw [decide_eq_true rfl] at hs
    refine hs.mono ?_
    rintro e w2 ⟨rfl, hb2⟩
    exact ⟨_, rfl, rfl, hb2⟩
  simp only [Act.put, List.setIfInBounds_toArray, List.set_cons_succ, List.set_cons_zero]
  iterate 6 (apply wpLQ_pin rfl rfl; intro K hK; go_big_quiet_op; go_big_quiet_on; apply And.intro rfl)
  apply wpLQ_loose (IntsAt 0 (ksP p.b)) (intsAt_stable _ _) (Nat.le_refl _) hD rfl
  · intro x _
    unfold Runs
    go_simp
    refine (rkeys_any x.val _ p.b (HV1.out.next (bt hb0 x.ok)).hb (by have := HLN.out; omega)).mono ?_
    rintro e w2 ⟨u, rfl, hi, hb2⟩
    exact ⟨u, rfl, hi.mono (Nat.zero_le _), hb2⟩
  intro u1
  simp only [Act.put, List.setIfInBounds_toArray, List.set_cons_succ, List.set_cons_zero]
  apply wpLQ_at (.bool true) (Nat.le_refl _) hD rfl
  · intro x hx
    have hi := Facts.head hx (anc_of (by kernel_rfl))
    unfold Runs
    go_simp
    have hs := same_any x.val _ 0 (ksP p.b) (ksP p.b) _ _ (I2.out.next (bt hb0 x.ok)).at hi (by have := HLN.out; have := HKL.out; omega)
    rw [decide_eq_true rfl] at hs
    refine hs.mono ?_
    rintro e w2 ⟨rfl, hb2⟩
    exact ⟨_, rfl, rfl, hb2⟩
  simp only [Act.put, List.setIfInBounds_toArray, List.set_cons_succ, List.set_cons_zero]
  iterate 7 (apply wpLQ_pin rfl rfl; intro K hK; go_big_quiet_op; go_big_quiet_on; apply And.intro rfl)
  apply wpLQ_loose (IntsAt 0 (ksP p.c)) (intsAt_stable _ _) (Nat.le_refl _) hD rfl
  · intro x _
    unfold Runs
    go_simp
    refine (rkeys_any x.val _ p.c (HV1.out.next (bt hb0 x.ok)).hc (by have := HLN.out; omega)).mono ?_
    rintro e w2 ⟨u, rfl, hi, hb2⟩
    exact ⟨u, rfl, hi.mono (Nat.zero_le _), hb2⟩
  intro u2
  simp only [Act.put, List.setIfInBounds_toArray, List.set_cons_succ, List.set_cons_zero]
  apply wpLQ_at (.bool true) (Nat.le_refl _) hD rfl
  · intro x hx
    have hi := Facts.head hx (anc_of (by kernel_rfl))
    unfold Runs
    go_simp
    have hs := same_any x.val _ 0 (ksP p.c) (ksP p.c) _ _ (I3.out.next (bt hb0 x.ok)).at hi (by have := HLN.out; have := HKL.out; omega)
    rw [decide_eq_true rfl] at hs
    refine hs.mono ?_
    rintro e w2 ⟨rfl, hb2⟩
    exact ⟨_, rfl, rfl, hb2⟩
  simp only [Act.put, List.setIfInBounds_toArray, List.set_cons_succ, List.set_cons_zero]
  iterate 7 (apply wpLQ_pin rfl rfl; intro K hK; go_big_quiet_op; go_big_quiet_on; apply And.intro rfl)
  apply wpLQ_loose (IntsAt 0 (ksP p.d)) (intsAt_stable _ _) (Nat.le_refl _) hD rfl
  · intro x _
    unfold Runs
    go_simp
    refine (rkeys_any x.val _ p.d (HV1.out.next (bt hb0 x.ok)).hd (by have := HLN.out; omega)).mono ?_
    rintro e w2 ⟨u, rfl, hi, hb2⟩
    exact ⟨u, rfl, hi.mono (Nat.zero_le _), hb2⟩
  intro u3
  simp only [Act.put, List.setIfInBounds_toArray, List.set_cons_succ, List.set_cons_zero]
  apply wpLQ_at (.bool true) (Nat.le_refl _) hD rfl
  · intro x hx
    have hi := Facts.head hx (anc_of (by kernel_rfl))
    unfold Runs
    go_simp
    have hs := same_any x.val _ 0 (ksP p.d) (ksP p.d) _ _ (I4.out.next (bt hb0 x.ok)).at hi (by have := HLN.out; have := HKL.out; omega)
    rw [decide_eq_true rfl] at hs
    refine hs.mono ?_
    rintro e w2 ⟨rfl, hb2⟩
    exact ⟨_, rfl, rfl, hb2⟩
  simp only [Act.put, List.setIfInBounds_toArray, List.set_cons_succ, List.set_cons_zero]
  iterate 3 (apply wpLQ_pin rfl rfl; intro K hK; go_big_quiet_op; go_big_quiet_on; apply And.intro rfl)
  apply wpLQ_at (.int .i64 p.target) (Nat.le_refl _) hD rfl
  · intro x _
    unfold Runs
    go_simp
    refine (target_pa x.val cb p (HP1.out.next (bt hb0 x.ok))).mono ?_
    rintro e w2 ⟨rfl, rfl⟩
    exact ⟨_, rfl, rfl, Below.refl _ _⟩
  simp only [Act.put, List.setIfInBounds_toArray, List.set_cons_succ, List.set_cons_zero]
  repeat (apply wpLQ_pin rfl rfl; intro K hK; go_big_quiet_op; go_big_quiet_on; apply And.intro rfl)
  apply wpLQ_nil (by simp)
  intro W1 hb1 _
  have HBB := Lib.hid (bt hb0 hb1)
  have J1 := Lib.hid (I1.out.next HBB.out)
  have HBW : Hid (Below w.heap.size w W1) := Lib.hid (bt HB1.out HBB.out)
  clear p1 p2 p3 p4 p5 hn hD hb1 hb0 hxw I1 I2 I3 I4 HP1 HV1 HB1 HBB
  have hkl := HKL.out.1
  have hln := HLN.out.1
  obtain ⟨n, hnn⟩ : ∃ n, n = (ksP p.a).length := ⟨_, rfl⟩
  obtain ⟨l, hl⟩ : ∃ l, l = (ksP p.a).map I64 := ⟨_, rfl⟩
  have hown : W1.ownsRow w.heap.size 3 1 a n l := by rw [hnn, hl]; exact J1.out
  have hsh : ∃ A cc, a = .slice A n cc := by
    rcases hown.2 with ⟨e, h0⟩ | ⟨g', cap, cur, e, hB, hh, h1⟩
    · exact ⟨_, _, by rw [e, h0]⟩
    · exact ⟨_, _, e⟩
  obtain ⟨A9, cc, rfl⟩ := hsh
  have hll : l.length = n := by rw [hl, hnn]; simp
  have hn2 : n ≤ 3000 := by omega
  have HO := Lib.hid hown
  clear hown hl hnn J1 HKL HLN hkl hln
  go_wp2_with fail
  go_loopw [10] (fun i wr => ∃ j : Nat, j ≤ n ∧ i = .int .i64 j ∧ (∃ l, wr.ownsRow w.heap.size 3 1 (.slice A9 n cc) n l ∧ l.length = n) ∧ Below w.heap.size w wr) (fun i _ => n - (intOf i).toNat)
  case atStart => exact ⟨0, by omega, rfl, ⟨l, HO.out, hll⟩, HBW.out⟩
  case round =>
    obtain ⟨j, hj, rfl, ⟨l2, ho2, hl2⟩, hb2⟩ := hrel
    have HB2 := Lib.hid hb2
    clear hb2
    by_cases hlt : j < n
    · rcases ho2.2 with ⟨e, h0⟩ | ⟨g, cap, cur, e, hB, hh, h1, h2, h3, h4⟩
      · omega
      · simp only [Value.slice.injEq] at e
        obtain ⟨rfl, _, ec⟩ := e
        subst ec
        obtain ⟨y, hy⟩ : ∃ y, l2[j]? = some y := ⟨l2[j]'(by omega), List.getElem?_eq_getElem _⟩
        have d1 : wr.cell? ⟨g, j, none⟩ = some y := by rw [ho2.cellAt j (by omega)]; exact hy
        have hrow : RowAt wr g 3 cur.toList := by unfold RowAt; rw [hh]
        have f1 := hrow.free j
        have HRW := Lib.hid hrow
        have HH3 : Hid (cur.size = cc * 1 ∧ cur.toList.take (n * 1) = l2) := Lib.hid ⟨h3, h4⟩
        have hjn : (j : Int) < (n : Int) := by omega
        have hjc : (j : Int) < (cc : Int) := by omega
        have j0 : (0 : Int) ≤ (j : Int) := by omega
        have HOW := Lib.hid ho2
        clear ho2 hh h3 h4 hrow hy
        go_wp2_with fail
        go_roundw
        case rel =>
          have hset := HRW.out.set j (.int .i64 (-9))
          refine ⟨j + 1, by omega, by go_num, ⟨l2.set j (.int .i64 (-9)), ⟨by simp [hl2], .inr ⟨g, cc, (cur.toList.set j (.int .i64 (-9))).toArray, rfl, hB, hset, h1, h2, ?_, ?_⟩⟩, by simp [hl2]⟩, ?_⟩
          · simpa using HH3.out.1
          · have := HH3.out.2
            rw [List.take_set, ← this]
          · exact HB2.out.setCell (show w.heap.size ≤ (⟨g, j, none⟩ : Addr).block from hB) _
        case measure => simp [intOf]; omega
    · obtain rfl : j = n := by omega
      go_wp2_with fail
      refine bodyPost_ret (by simp [results, Try.results28, go_sem]; rfl) rfl ?_
      exact ⟨rfl, HB2.out⟩
end Go.Proofs.Ytefjpljjdjecjaa
