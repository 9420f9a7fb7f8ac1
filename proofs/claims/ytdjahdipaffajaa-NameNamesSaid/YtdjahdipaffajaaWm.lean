/- Same, long. -/
import Derived.Test.YtdjahdipaffajaaWl
namespace Go.Proofs.Ytdjahdipaffajaa
open Go.RowKit
def SmI (w : World) (a b : List (List UInt8)) (i : Value) (wr : World) : Prop := ∃ k : Nat, k ≤ a.length ∧ i = .int .i64 k ∧ a.take k = b.take k ∧ Below w.heap.size w wr
set_option maxHeartbeats 4000000 in
theorem same_any (w : World) (A B : Option Addr) (n m c1 c2 : Nat) (a b : List (List UInt8)) (ha : SliceAt w A n (a.map strV)) (hb : SliceAt w B m (b.map strV)) (hn : n ≤ 100000) (hm : m ≤ 100000) :
    Calls Try.prog 21 #[.slice A n c1, .slice B m c2] w fun e w' => e = .returned (.bool (decide (a = b))) ∧ Below w.heap.size w w' := by
  have hal : a.length = n := by have := ha.1; simpa using this
  have hbl : b.length = m := by have := hb.1; simpa using this
  have HA := Lib.hid ha
  have HB := Lib.hid hb
  have HAL := Lib.hid hal
  have HBL := Lib.hid hbl
  clear ha hb hal hbl
  by_cases hl : n = m
  · subst hl
    go_enter Try.func21, Try.ntmps21
    go_wp2_with fail
    go_loopw [5] (fun i wr => SmI w a b i wr) (fun i _ => n - (intOf i).toNat)
    case atStart => exact ⟨0, by omega, rfl, rfl, Below.refl _ _⟩
    case round =>
      obtain ⟨k, hk, rfl, ht, hbw⟩ := hrel
      rw [HAL.out] at hk
      have HT := Lib.hid ht
      have HBW := Lib.hid hbw
      clear ht hbw
      by_cases hlt : k < n
      · obtain ⟨b1, o1, rfl, l1, q1⟩ := HA.out.get k hlt
        obtain ⟨b2, o2, rfl, l2, q2⟩ := HB.out.get k hlt
        obtain ⟨x, hx⟩ : ∃ x, a[k]? = some x := ⟨a[k]'(by rw [HAL.out]; exact hlt), List.getElem?_eq_getElem _⟩
        obtain ⟨y, hy⟩ : ∃ y, b[k]? = some y := ⟨b[k]'(by rw [HBL.out]; exact hlt), List.getElem?_eq_getElem _⟩
        rw [List.getElem?_map, hx] at q1
        rw [List.getElem?_map, hy] at q2
        simp only [Option.map_some, strV] at q1 q2
        obtain ⟨E1, hE1⟩ : ∃ E : ByteArray, E = ⟨x.toArray⟩ := ⟨_, rfl⟩
        obtain ⟨E2, hE2⟩ : ∃ E : ByteArray, E = ⟨y.toArray⟩ := ⟨_, rfl⟩
        rw [← hE1] at q1
        rw [← hE2] at q2
        have d1 := (HBW.out.cell (p := ⟨b1, o1 + k, none⟩) l1).trans q1
        have d2 := (HBW.out.cell (p := ⟨b2, o2 + k, none⟩) l2).trans q2
        have z1 : b1 < wr.heap.size := Nat.lt_of_lt_of_le l1 HBW.out.size
        have z2 : b2 < wr.heap.size := Nat.lt_of_lt_of_le l2 HBW.out.size
        have HE1 : Hid (E1.data.toList = x) := Lib.hid (by rw [hE1])
        have HE2 : Hid (E2.data.toList = y) := Lib.hid (by rw [hE2])
        have HX := Lib.hid hx
        have HY := Lib.hid hy
        clear q1 q2 hx hy hE1 hE2
        by_cases hxy : x = y
        · obtain rfl : E1 = E2 := by rw [ba_ext HE1.out, ba_ext HE2.out, hxy]
          subst hxy
          go_wp2_with fail
          refine wp_region_parts (by kernel_rfl) (by kernel_rfl) ?_
          have hb0 : Below wr.heap.size wr wr.drew := (Below.refl _ _).drew
          generalize wr.drew = W at *
          apply regL_lq W.heap.size
          intro D hD hn'
          have p1 := fun z : Bd W.heap.size W D => ((bt hb0 z.ok).cell (p := ⟨b1, o1 + k, none⟩) z1).trans d1
          have p2 := fun z : Bd W.heap.size W D => ((bt hb0 z.ok).cell (p := ⟨b2, o2 + k, none⟩) z2).trans d2
          repeat (apply wpLQ_pin rfl rfl; intro K hK; go_big_quiet_op; go_big_quiet_on; apply And.intro rfl)
          apply wpLQ_nil (by simp)
          intro W1 hb1 _
          have HB1 := Lib.hid (HBW.out.trans ((bt hb0 hb1).mono HBW.out.size))
          clear p1 p2 hn' hD hb0 hb1 d1 d2
          go_wp2_with fail
          go_roundw
          case rel =>
            refine ⟨k + 1, by rw [HAL.out]; omega, by go_num, ?_, HB1.out⟩
            rw [List.take_add_one, List.take_add_one, HT.out, HX.out, HY.out]
          case measure => simp [intOf]; omega
        · have hne : (E1.toList == E2.toList) = false := by rw [Lib.toList_data, Lib.toList_data, HE1.out, HE2.out]; simpa using hxy
          have hne2 : (E1.toList != E2.toList) = true := by rw [Lib.toList_data, Lib.toList_data, HE1.out, HE2.out]; simpa using hxy
          have HF : Hid (decide (a = b) = false) := Lib.hid (by
            rw [decide_eq_false_iff_not]
            rintro rfl
            rw [HX.out] at HY
            exact hxy (Option.some.inj HY.out))
          clear hxy
          go_wp2_with fail
          refine wp_region_parts (by kernel_rfl) (by kernel_rfl) ?_
          have hb0 : Below wr.heap.size wr wr.drew := (Below.refl _ _).drew
          generalize wr.drew = W at *
          apply regL_lq W.heap.size
          intro D hD hn'
          have p1 := fun z : Bd W.heap.size W D => ((bt hb0 z.ok).cell (p := ⟨b1, o1 + k, none⟩) z1).trans d1
          have p2 := fun z : Bd W.heap.size W D => ((bt hb0 z.ok).cell (p := ⟨b2, o2 + k, none⟩) z2).trans d2
          repeat (apply wpLQ_pin rfl rfl; intro K hK; go_big_quiet_op; go_big_quiet_on; apply And.intro rfl)
          apply wpLQ_nil (by simp)
          intro W1 hb1 _
          have HB1 := Lib.hid (HBW.out.trans ((bt hb0 hb1).mono HBW.out.size))
          clear p1 p2 hn' hD hb0 hb1 d1 d2
          go_wp2_with fail
          go_ret
          exact ⟨by rw [HF.out]; rfl, HB1.out⟩
      · obtain rfl : k = n := by omega
        have HF : Hid (decide (a = b) = true) := Lib.hid (by
          have := HT.out
          rw [List.take_of_length_le (by rw [HAL.out]; exact Nat.le_refl _), List.take_of_length_le (by rw [HBL.out]; exact Nat.le_refl _)] at this
          simp [this])
        go_wp2_with fail
        go_ret
        exact ⟨by rw [HF.out]; rfl, HBW.out⟩
  · have HF : Hid (decide (a = b) = false) := Lib.hid (by
      rw [decide_eq_false_iff_not]
      rintro rfl
      exact hl (HAL.out.symm.trans HBL.out))
    have h1 : ((n : Int) == (m : Int)) = false := by simp; omega
    have h2 : ((n : Int) != (m : Int)) = true := by simp; omega
    go_enter Try.func21, Try.ntmps21
    go_wp2_with fail
    go_ret
    exact ⟨by rw [HF.out]; rfl, Below.refl _ _⟩
def LgI (l : List (List UInt8)) (i : Value) : Prop := ∃ k : Nat, k ≤ l.length ∧ i = .int .i64 k ∧ ∀ x ∈ l.take k, x.length ≤ 100
/-- long tells false just of few short names. -/
def longP (l : List (List UInt8)) : Prop := l.length ≤ 200 ∧ ∀ x ∈ l, x.length ≤ 100
def LongPost (l : List (List UInt8)) (w : World) (e : Ending) (w' : World) : Prop := (∃ b, e = .returned (.bool b) ∧ (b = false → longP l)) ∧ w = w'
set_option maxHeartbeats 2000000 in
theorem long_any (w : World) (A : Option Addr) (n c : Nat) (l : List (List UInt8)) (hs : SliceAt w A n (l.map strV)) (hm : n ≤ maxLen) (hz : ∀ x ∈ l, x.length ≤ maxLen) :
    Calls Try.prog 14 #[.slice A n c] w (LongPost l w) := by
  unfold maxLen at hm hz
  have hal : l.length = n := by have := hs.1; simpa using this
  have HS := Lib.hid hs
  have HL := Lib.hid hal
  have HZ := Lib.hid hz
  clear hs hal hz
  by_cases h : n ≤ 200
  · have h1 : (n : Int) ≤ 200 := by omega
    go_enter Try.func14, Try.ntmps14
    go_wp2_with fail
    go_loop [3] (fun i => LgI l i) (fun i => n - (intOf i).toNat)
    case atStart => exact ⟨0, by omega, rfl, by simp⟩
    case round =>
      obtain ⟨k, hk, rfl, hall⟩ := hrel
      rw [HL.out] at hk
      have HALL := Lib.hid hall
      clear hall
      by_cases hlt : k < n
      · obtain ⟨b1, o1, rfl, l1, q1⟩ := HS.out.get k hlt
        obtain ⟨x, hx⟩ : ∃ x, l[k]? = some x := ⟨l[k]'(by rw [HL.out]; exact hlt), List.getElem?_eq_getElem _⟩
        have hxz := HZ.out x (List.mem_of_getElem? hx)
        rw [List.getElem?_map, hx] at q1
        simp only [Option.map_some, strV] at q1
        obtain ⟨E1, hE1⟩ : ∃ E : ByteArray, E = ⟨x.toArray⟩ := ⟨_, rfl⟩
        rw [← hE1] at q1
        have hEs : x.length = E1.size := by rw [hE1]; simp [ByteArray.size]
        rw [hEs] at hxz
        have HX := Lib.hid hx
        have HES := Lib.hid hEs
        clear hx hE1 hEs
        by_cases hb : E1.size ≤ 100
        · have hb1 : (E1.size : Int) ≤ 100 := by omega
          go_wp2_with fail
          go_round
          case rel =>
            refine ⟨k + 1, by rw [HL.out]; omega, by go_num, fun y hy => ?_⟩
            rw [List.take_add_one, HX.out] at hy
            rcases List.mem_append.1 hy with hy | hy
            · exact HALL.out y hy
            · simp at hy; subst hy; rw [HES.out]; exact hb
          case measure => simp [intOf]; omega
        · have hb1 : (100 : Int) < (E1.size : Int) := by omega
          go_wp2_with fail
          go_ret
          exact ⟨⟨true, rfl, fun h => by cases h⟩, rfl⟩
      · obtain rfl : k = n := by omega
        have hl : longP l := ⟨by rw [HL.out]; exact h, by
          have := HALL.out
          rwa [List.take_of_length_le (by rw [HL.out]; exact Nat.le_refl _)] at this⟩
        have HLP := Lib.hid hl
        clear hl
        go_wp2_with fail
        go_ret
        exact ⟨⟨false, rfl, fun _ => HLP.out⟩, rfl⟩
  · have h1 : (200 : Int) < (n : Int) := by omega
    go_enter Try.func14, Try.ntmps14
    go_wp2_with fail
    go_ret
    exact ⟨⟨true, rfl, fun h => by cases h⟩, rfl⟩
end Go.Proofs.Ytdjahdipaffajaa
