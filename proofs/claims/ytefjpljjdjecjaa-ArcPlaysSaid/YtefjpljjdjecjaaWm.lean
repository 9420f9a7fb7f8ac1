/- Same, Rows. -/
import Derived.Test.YtefjpljjdjecjaaWl
namespace Go.Proofs.Ytefjpljjdjecjaa
open Go.RowKit
def SInv (w : World) (a b : List Int) (i : Value) (wr : World) : Prop := ∃ k : Nat, k ≤ a.length ∧ i = .int .i64 k ∧ a.take k = b.take k ∧ Below w.heap.size w wr
set_option maxHeartbeats 2000000 in
theorem same_eq (w : World) (A B : Option Addr) (c1 c2 : Nat) (a b : List Int) (n : Nat) (ha : SliceAt w A n (a.map I64)) (hb : SliceAt w B n (b.map I64)) (hn1 : a.length = n) (hn2 : b.length = n) (hm : n ≤ 100000) :
    Calls Try.prog 15 #[.slice A n c1, .slice B n c2] w fun e w' => e = .returned (.bool (decide (a = b))) ∧ Below w.heap.size w w' := by
  have HA := Lib.hid ha
  have HB := Lib.hid hb
  have HN1 := Lib.hid hn1
  have HN2 := Lib.hid hn2
  clear ha hb hn1 hn2
  go_enter Try.func15, Try.ntmps15
  go_wp2_with fail
  go_loopw [5] (fun i wr => SInv w a b i wr) (fun i _ => n - (intOf i).toNat)
  case atStart => exact ⟨0, by omega, rfl, by simp, Below.refl _ _⟩
  case round =>
    obtain ⟨k, hk, rfl, ht, hB⟩ := hrel
    have HT := Lib.hid ht
    have HBW := Lib.hid hB
    rw [HN1.out] at hk
    clear ht hB
    by_cases hlt : k < n
    · obtain ⟨b1, o1, rfl, l1, q1⟩ := HA.out.get k hlt
      obtain ⟨b2, o2, rfl, l2, q2⟩ := HB.out.get k hlt
      obtain ⟨x, hx⟩ : ∃ x, a[k]? = some x := ⟨a[k]'(by rw [HN1.out]; omega), List.getElem?_eq_getElem _⟩
      obtain ⟨y, hy⟩ : ∃ y, b[k]? = some y := ⟨b[k]'(by rw [HN2.out]; omega), List.getElem?_eq_getElem _⟩
      rw [List.getElem?_map, hx] at q1
      rw [List.getElem?_map, hy] at q2
      have HX := Lib.hid hx
      have HY := Lib.hid hy
      have d1 : wr.cell? ⟨b1, o1 + k, none⟩ = some (.int .i64 x) := (HBW.out.cell l1).trans q1
      have d2 : wr.cell? ⟨b2, o2 + k, none⟩ = some (.int .i64 y) := (HBW.out.cell l2).trans q2
      clear q1 q2 hx hy
      have m1 : b1 < wr.heap.size := Nat.lt_of_lt_of_le l1 HBW.out.size
      have m2 : b2 < wr.heap.size := Nat.lt_of_lt_of_le l2 HBW.out.size
      go_wp2_with fail
      refine wp_region_parts (by kernel_rfl) (by kernel_rfl) ?_
      have hb0 : Below wr.heap.size wr wr.drew := (Below.refl _ _).drew
      generalize wr.drew = W at *
      apply regL_lq W.heap.size
      intro D hD hn
      have p1 := fun z : Bd W.heap.size W D => ((bt hb0 z.ok).cell m1).trans d1
      have p2 := fun z : Bd W.heap.size W D => ((bt hb0 z.ok).cell m2).trans d2
      repeat (apply wpLQ_pin rfl rfl; intro K hK; go_big_quiet_op; go_big_quiet_on; apply And.intro rfl)
      apply wpLQ_nil (by simp)
      intro W1 hb1 _
      have HBB := Lib.hid (bt HBW.out (bt hb0 hb1))
      clear p1 p2 hn hD hb0 hb1 d1 d2 m1 m2 l1 l2
      by_cases hxy : x = y
      · subst hxy
        go_wp2
        go_roundw
        case rel =>
          refine ⟨k + 1, by rw [HN1.out]; omega, by go_num, ?_, HBB.out⟩
          rw [List.take_add_one, List.take_add_one, HT.out, HX.out, HY.out]
        case measure => simp [intOf]; omega
      · have hd : (x == y) = false := by simpa using hxy
        go_wp2
        go_ret
        refine ⟨?_, HBB.out⟩
        have hne : a ≠ b := by
          rintro rfl
          have := HX.out.symm.trans HY.out
          exact hxy (by simpa using this)
        simp [hne]
    · obtain rfl : k = n := by omega
      go_wp2
      go_ret
      refine ⟨?_, HBW.out⟩
      have e : a = b := by
        have := HT.out
        rwa [List.take_of_length_le (by rw [HN1.out]; omega), List.take_of_length_le (by rw [HN2.out]; omega)] at this
      simp [e]
theorem same_ne (w : World) (A B : Option Addr) (c1 c2 : Nat) (n1 n2 : Nat) (hne : n1 ≠ n2) :
    Calls Try.prog 15 #[.slice A n1 c1, .slice B n2 c2] w fun e w' => e = .returned (.bool false) ∧ Below w.heap.size w w' := by
  have hd : ((n1 : Int) == n2) = false := by simpa using (by omega : (n1 : Int) ≠ n2)
  go_enter Try.func15, Try.ntmps15
  go_wp2
  go_ret
  exact ⟨rfl, Below.refl _ _⟩
theorem same_any (w : World) (B1 B2 : Nat) (a b : List Int) (u v : Value) (ha : IntsAt B1 a u w) (hb : IntsAt B2 b v w) (h1 : a.length ≤ 100000) :
    Calls Try.prog 15 #[u, v] w fun e w' => e = .returned (.bool (decide (a = b))) ∧ Below w.heap.size w w' := by
  obtain ⟨A, c1, rfl, s1, _⟩ := ha
  obtain ⟨B, c2, rfl, s2, _⟩ := hb
  by_cases hl : a.length = b.length
  · rw [← hl] at s2 ⊢
    exact same_eq w A B c1 c2 a b a.length s1 s2 rfl hl.symm h1
  · have hne : a ≠ b := fun e => hl (by rw [e])
    rw [show decide (a = b) = false from by simp [hne]]
    exact same_ne w A B c1 c2 _ _ hl
theorem IntsAt.mono {B B' : Nat} {l : List Int} {v : Value} {w : World} (h : IntsAt B l v w) (hB : B' ≤ B) : IntsAt B' l v w := by
  obtain ⟨a, cap, rfl, h1, h2, h3⟩ := h
  exact ⟨a, cap, rfl, h1, h2, fun x hx => Nat.le_trans hB (h3 x hx)⟩
theorem keys_val (w : World) (cb : Nat) (R : Nat → List It) (m : Value) (room target : Int) (h : RA w cb R m room target) (r : Nat) (z : Int) (hz : z = r) (hr : r < 4) :
    Calls Try.prog 31 #[.pointer (some ⟨cb, 0, none⟩), .int .i64 z] w fun e w' => ∃ v, e = .returned v ∧ IntsAt w.heap.size (keysL (R r)) v w' ∧ Below w.heap.size w w' := by
  subst hz; exact keys_any w cb R m room target h r hr
def Rows4 (B : Nat) (R : Nat → List It) (v : Value) (w : World) : Prop := ∃ a b c d, v = .tuple #[a, b, c, d] ∧ IntsAt B (keysL (R 0)) a w ∧ IntsAt B (keysL (R 1)) b w ∧ IntsAt B (keysL (R 2)) c w ∧ IntsAt B (keysL (R 3)) d w
theorem intsAt_stable (B : Nat) (l : List Int) : ∀ u, StableF (fun u u' => Below u.heap.size u u') (IntsAt B l u) := fun _ _ _ hb h => h.next hb
set_option maxHeartbeats 2000000 in
theorem rows_any (w : World) (cb : Nat) (s : Cs) (h : CA w cb s) : Calls Try.prog 13 #[.pointer (some ⟨cb, 0, none⟩)] w fun e w' => ∃ v, e = .returned v ∧ Rows4 w.heap.size s.R v w' ∧ Below w.heap.size w w' := by
  have HN := Lib.hid (none_any _ cb s h)
  have H := Lib.hid h.ra
  clear h
  go_enter Try.func13, Try.ntmps13
  go_wp2_with fail
  refine HN.out.mono ?_
  rintro e w1 ⟨rfl, rfl⟩
  go_wp2_with fail
  refine wp_region_parts (by kernel_rfl) (by kernel_rfl) ?_
  have hb0 : Below w.heap.size w w.drew := (Below.refl _ _).drew
  generalize w.drew = W at *
  apply regL_lq W.heap.size
  intro D hD hn
  have raX := fun x : Bd W.heap.size W D => Lib.hid (H.out.nextb (bt hb0 x.ok))
  repeat (apply wpLQ_pin rfl rfl; intro K hK; go_big_quiet_op; go_big_quiet_on; apply And.intro rfl)
  apply wpLQ_loose (IntsAt w.heap.size (keysL (s.R 0))) (intsAt_stable _ _) (Nat.le_refl _) hD rfl
  · intro x _
    unfold Runs
    go_simp
    refine (keys_val x.val cb s.R _ _ _ (raX x).out 0 0 rfl (by decide)).mono ?_
    rintro e w1 ⟨v, rfl, hi, hb1⟩
    exact ⟨v, rfl, hi.mono (bt hb0 x.ok).size, hb1⟩
  intro u0
  simp only [Act.put, List.setIfInBounds_toArray, List.set_cons_succ, List.set_cons_zero]
  repeat (apply wpLQ_pin rfl rfl; intro K hK; go_big_quiet_op; go_big_quiet_on; apply And.intro rfl)
  apply wpLQ_loose (IntsAt w.heap.size (keysL (s.R 1))) (intsAt_stable _ _) (Nat.le_refl _) hD rfl
  · intro x _
    unfold Runs
    go_simp
    refine (keys_val x.val cb s.R _ _ _ (raX x).out 1 1 rfl (by decide)).mono ?_
    rintro e w1 ⟨v, rfl, hi, hb1⟩
    exact ⟨v, rfl, hi.mono (bt hb0 x.ok).size, hb1⟩
  intro u1
  simp only [Act.put, List.setIfInBounds_toArray, List.set_cons_succ, List.set_cons_zero]
  repeat (apply wpLQ_pin rfl rfl; intro K hK; go_big_quiet_op; go_big_quiet_on; apply And.intro rfl)
  apply wpLQ_loose (IntsAt w.heap.size (keysL (s.R 2))) (intsAt_stable _ _) (Nat.le_refl _) hD rfl
  · intro x _
    unfold Runs
    go_simp
    refine (keys_val x.val cb s.R _ _ _ (raX x).out 2 2 rfl (by decide)).mono ?_
    rintro e w1 ⟨v, rfl, hi, hb1⟩
    exact ⟨v, rfl, hi.mono (bt hb0 x.ok).size, hb1⟩
  intro u2
  simp only [Act.put, List.setIfInBounds_toArray, List.set_cons_succ, List.set_cons_zero]
  repeat (apply wpLQ_pin rfl rfl; intro K hK; go_big_quiet_op; go_big_quiet_on; apply And.intro rfl)
  apply wpLQ_loose (IntsAt w.heap.size (keysL (s.R 3))) (intsAt_stable _ _) (Nat.le_refl _) hD rfl
  · intro x _
    unfold Runs
    go_simp
    refine (keys_val x.val cb s.R _ _ _ (raX x).out 3 3 rfl (by decide)).mono ?_
    rintro e w1 ⟨v, rfl, hi, hb1⟩
    exact ⟨v, rfl, hi.mono (bt hb0 x.ok).size, hb1⟩
  intro u3
  simp only [Act.put, List.setIfInBounds_toArray, List.set_cons_succ, List.set_cons_zero]
  apply wpLQ_end (bar_of (by kernel_rfl))
  intro W1 hb1 hf
  have i3 := Facts.first hf
  have i2 := Facts.first (Facts.rest hf)
  have i1 := Facts.first (Facts.rest (Facts.rest hf))
  have i0 := Facts.first (Facts.rest (Facts.rest (Facts.rest hf)))
  have HI := Lib.hid (And.intro i0 (And.intro i1 (And.intro i2 i3)))
  have HBB := Lib.hid (bt hb0 hb1)
  clear i0 i1 i2 i3 hf hb1 hb0 raX hn hD
  apply regL_lq W1.heap.size
  intro D hD hn
  repeat (apply wpLQ_pin rfl rfl; intro K hK; go_big_quiet_op; go_big_quiet_on; apply And.intro rfl)
  apply wpLQ_nil (by simp)
  intro W2 hb2 _
  have HB2 := Lib.hid hb2
  clear hb2 hn hD
  go_wp2
  refine bodyPost_ret (by simp [results, Try.results13, go_sem]; rfl) rfl ?_
  exact ⟨_, rfl, ⟨_, _, _, _, rfl, HI.out.1.next HB2.out, HI.out.2.1.next HB2.out, HI.out.2.2.1.next HB2.out, HI.out.2.2.2.next HB2.out⟩, bt HBB.out HB2.out⟩
end Go.Proofs.Ytefjpljjdjecjaa
