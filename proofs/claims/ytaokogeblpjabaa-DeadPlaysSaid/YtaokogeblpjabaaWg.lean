/- Same, needed, spoil. -/
import Derived.Test.YtaokogeblpjabaaWf
import Derived.Test.YtaokogeblpjabaaSe
namespace Go.Proofs.Ytaokogeblpjabaa
open Go.RowKit
def SInv (w : World) (a b : List Int) (i : Value) (wr : World) : Prop := ∃ k : Nat, k ≤ a.length ∧ i = .int .i64 k ∧ a.take k = b.take k ∧ Below w.heap.size w wr
set_option maxHeartbeats 2000000 in
theorem same_eq (w : World) (A B : Option Addr) (c1 c2 : Nat) (a b : List Int) (n : Nat) (ha : SliceAt w A n (a.map I64)) (hb : SliceAt w B n (b.map I64)) (hn1 : a.length = n) (hn2 : b.length = n) (hm : n ≤ 100000) :
    Calls Try.prog 20 #[.slice A n c1, .slice B n c2] w fun e w' => e = .returned (.bool (decide (a = b))) ∧ Below w.heap.size w w' := by
  have HA := Lib.hid ha
  have HB := Lib.hid hb
  have HN1 := Lib.hid hn1
  have HN2 := Lib.hid hn2
  clear ha hb hn1 hn2
  go_enter Try.func20, Try.ntmps20
  go_wp2_with fail
  go_loopw [5] (fun i wr => SInv w a b i wr) (fun i _ => n - (intOf i).toNat)
  case atStart => exact ⟨0, by omega, rfl, by simp, Below.refl _ _⟩
  case round =>
    obtain ⟨k, hk, rfl, ht, hB⟩ := hrel
    have HT := Lib.hid ht
    have HBW := Lib.hid hB
    rw [HN1.out] at hk
    clear ht hB
    by_cases hlt : k < n
    · obtain ⟨b1, o1, rfl, l1, q1⟩ := HA.out.get k hlt
      obtain ⟨b2, o2, rfl, l2, q2⟩ := HB.out.get k hlt
      obtain ⟨x, hx⟩ : ∃ x, a[k]? = some x := ⟨a[k]'(by rw [HN1.out]; omega), List.getElem?_eq_getElem _⟩
      obtain ⟨y, hy⟩ : ∃ y, b[k]? = some y := ⟨b[k]'(by rw [HN2.out]; omega), List.getElem?_eq_getElem _⟩
      rw [List.getElem?_map, hx] at q1
      rw [List.getElem?_map, hy] at q2
      have HX := Lib.hid hx
      have HY := Lib.hid hy
      have d1 : wr.cell? ⟨b1, o1 + k, none⟩ = some (.int .i64 x) := (HBW.out.cell l1).trans q1
      have d2 : wr.cell? ⟨b2, o2 + k, none⟩ = some (.int .i64 y) := (HBW.out.cell l2).trans q2
      clear q1 q2 hx hy
      have m1 : b1 < wr.heap.size := Nat.lt_of_lt_of_le l1 HBW.out.size
      have m2 : b2 < wr.heap.size := Nat.lt_of_lt_of_le l2 HBW.out.size
      go_wp2_with fail
      refine wp_region_parts (by kernel_rfl) (by kernel_rfl) ?_
      have hb0 : Below wr.heap.size wr wr.drew := (Below.refl _ _).drew
      generalize wr.drew = W at *
      apply regL_lq W.heap.size
      intro D hD hn
      have p1 := fun z : Bd W.heap.size W D => ((bt hb0 z.ok).cell m1).trans d1
      have p2 := fun z : Bd W.heap.size W D => ((bt hb0 z.ok).cell m2).trans d2
      repeat (apply wpLQ_pin rfl rfl; intro K hK; go_big_quiet_op; go_big_quiet_on; apply And.intro rfl)
      apply wpLQ_nil (by simp)
      intro W1 hb1 _
      have HBB := Lib.hid (bt HBW.out (bt hb0 hb1))
      clear p1 p2 hn hD hb0 hb1 d1 d2 m1 m2 l1 l2
      by_cases hxy : x = y
      · subst hxy
        go_wp2
        go_roundw
        case rel =>
          refine ⟨k + 1, by rw [HN1.out]; omega, by go_num, ?_, HBB.out⟩
          rw [List.take_add_one, List.take_add_one, HT.out, HX.out, HY.out]
        case measure => simp [intOf]; omega
      · have hd : (x == y) = false := by simpa using hxy
        go_wp2
        go_ret
        refine ⟨?_, HBB.out⟩
        have hne : a ≠ b := by
          rintro rfl
          have := HX.out.symm.trans HY.out
          exact hxy (by simpa using this)
        simp [hne]
    · obtain rfl : k = n := by omega
      go_wp2
      go_ret
      refine ⟨?_, HBW.out⟩
      have e : a = b := by
        have := HT.out
        rwa [List.take_of_length_le (by rw [HN1.out]; omega), List.take_of_length_le (by rw [HN2.out]; omega)] at this
      simp [e]
theorem same_ne (w : World) (A B : Option Addr) (c1 c2 : Nat) (n1 n2 : Nat) (hne : n1 ≠ n2) :
    Calls Try.prog 20 #[.slice A n1 c1, .slice B n2 c2] w fun e w' => e = .returned (.bool false) ∧ Below w.heap.size w w' := by
  have hd : ((n1 : Int) == n2) = false := by simpa using (by omega : (n1 : Int) ≠ n2)
  go_enter Try.func20, Try.ntmps20
  go_wp2
  go_ret
  exact ⟨rfl, Below.refl _ _⟩
theorem same_any (w : World) (a b : List Int) (u v : Value) (ha : ∃ A c, u = .slice A a.length c ∧ SliceAt w A a.length (a.map I64)) (hb : ∃ A c, v = .slice A b.length c ∧ SliceAt w A b.length (b.map I64)) (h1 : a.length ≤ 100000) :
    Calls Try.prog 20 #[u, v] w fun e w' => e = .returned (.bool (decide (a = b))) ∧ Below w.heap.size w w' := by
  obtain ⟨A, c1, rfl, s1⟩ := ha
  obtain ⟨B, c2, rfl, s2⟩ := hb
  by_cases hl : a.length = b.length
  · rw [← hl] at s2 ⊢
    exact same_eq w A B c1 c2 a b a.length s1 s2 rfl hl.symm h1
  · have hne : a ≠ b := fun e => hl (by rw [e])
    rw [show decide (a = b) = false from by simp [hne]]
    exact same_ne w A B c1 c2 _ _ hl
def NeI (w : World) (l : List Int) (x : Int) (i : Value) (wr : World) : Prop := ∃ k : Nat, k ≤ l.length ∧ i = .int .i64 k ∧ x ∉ l.take k ∧ wr = w
theorem needed_any (w : World) (A : Option Addr) (n c : Nat) (l : List Int) (ha : SliceAt w A n (l.map I64)) (hl : l.length = n) (hm : n ≤ 100000) (x : Int) :
    Calls Try.prog 14 #[.slice A n c, .int .i64 x] w fun e w' => e = .returned (.bool (decide (x ∈ l))) ∧ w' = w := by
  have HA := Lib.hid ha
  have HL := Lib.hid hl
  clear ha hl
  go_enter Try.func14, Try.ntmps14
  go_wp2_with fail
  go_loopw [5] (fun i wr => NeI w l x i wr) (fun i _ => n - (intOf i).toNat)
  case atStart => exact ⟨0, by omega, rfl, by simp, rfl⟩
  case round =>
    obtain ⟨k, hk, rfl, ht, hw⟩ := hrel
    rw [hw]
    rw [HL.out] at hk
    have HT := Lib.hid ht
    clear ht hw wr
    by_cases hlt : k < n
    · have hlt' : (k : Int) < (n : Int) := by omega
      have k0 : (0 : Int) ≤ (k : Int) := by omega
      obtain ⟨b1, o1, rfl, l1, q1⟩ := HA.out.get k hlt
      obtain ⟨y, hy⟩ : ∃ y, l[k]? = some y := ⟨l[k]'(by rw [HL.out]; omega), List.getElem?_eq_getElem _⟩
      rw [List.getElem?_map, hy] at q1
      have HY := Lib.hid hy
      have d1 : w.cell? ⟨b1, o1 + k, none⟩ = some (.int .i64 y) := q1
      clear q1 hy
      by_cases hxy : y = x
      · have HM : Hid (x ∈ l) := Lib.hid (hxy ▸ List.mem_of_getElem? HY.out)
        have g : (y == x) = true := by simpa using hxy
        clear hxy
        go_wp2_with fail
        all_goals refine bodyPost_ret (by simp [results, Try.results14, go_sem]; rfl) rfl ?_
        all_goals exact ⟨by rw [decide_eq_true HM.out], rfl⟩
      · have HM : Hid (x ∉ l.take (k + 1)) := Lib.hid (by
          rw [take_succ_mem HY.out]
          exact fun h => h.elim HT.out (fun e => hxy e.symm))
        have g : (y == x) = false := by simpa using hxy
        clear hxy
        go_wp2_with fail
        go_roundw
        case rel => exact ⟨k + 1, by rw [HL.out]; omega, by go_num, HM.out, rfl⟩
        case measure => simp [intOf]; omega
    · obtain rfl : k = n := by omega
      have HM : Hid (x ∉ l) := Lib.hid (by have := HT.out; rwa [List.take_of_length_le (by rw [HL.out]; omega)] at this)
      go_wp2_with fail
      all_goals refine bodyPost_ret (by simp [results, Try.results14, go_sem]; rfl) rfl ?_
      all_goals exact ⟨by rw [decide_eq_false HM.out], rfl⟩
/-- What a slice reads as, if some of it has been written over. -/
def SpI (w : World) (B : Nat) (v : Value) (n : Nat) (i : Value) (W : World) : Prop := ∃ k l, k ≤ n ∧ i = .int .i64 (k : Nat) ∧ l.length = n ∧ OwnI B l v W ∧ Fr (fun j => B ≤ j) w W
theorem OwnI.set {B : Nat} {l : List Int} {n cap g : Nat} {w : World} (h : OwnI B l (.slice (some ⟨g, 0, none⟩) n cap) w) (i : Nat) (x : Int) :
    OwnI B (l.set i x) (.slice (some ⟨g, 0, none⟩) n cap) (w.setCell ⟨g, i, none⟩ (.int .i64 x)) ∧ Fr (fun j => B ≤ j) w (w.setCell ⟨g, i, none⟩ (.int .i64 x)) := by
  rcases h.2 with ⟨e, h0⟩ | ⟨g', c, cur, e, hg, hb, h1, h2, h3, h4⟩
  · cases e
  · cases e
    refine ⟨⟨by simp, .inr ⟨g, cap, cur.set! i (.int .i64 x), by simp, hg, ?_, by simpa using h1, h2, by simpa using h3, ?_⟩⟩, (Fr.refl _ _).setCell hg _⟩
    · simp only [World.setCell, Array.getElem?_modify, hb]
      simp
    · have e1 : (cur.set! i (.int .i64 x)).toList = cur.toList.set i (.int .i64 x) := by simp
      rw [e1, List.length_set, List.take_set, h4, List.map_set]
      rfl
theorem spoil_any (w : World) (B : Nat) (v : Value) (l : List Int) (h : OwnI B l v w) (hl : l.length ≤ 100000) :
    Calls Try.prog 35 #[v] w fun e w' => e = .returned (.tuple #[]) ∧ Fr (fun j => B ≤ j) w w' := by
  obtain ⟨A, cap, rfl⟩ := h.shape
  have HO := Lib.hid h
  clear h
  generalize hn : l.length = n at *
  have HN := Lib.hid hn
  clear hn
  go_enter Try.func35, Try.ntmps35
  go_wp2_with fail
  go_loopw [2] (fun i wr => SpI w B (.slice A n cap) n i wr) (fun i _ => n - (intOf i).toNat)
  case atStart => exact ⟨0, l, by omega, rfl, HN.out, HO.out, Fr.refl _ _⟩
  case round =>
    obtain ⟨k, l1, hk, rfl, hl1, ho, hf⟩ := hrel
    clear HO HN
    have HN := Lib.hid hl1
    have HO := Lib.hid ho
    have HF := Lib.hid hf
    clear hl1 ho hf
    by_cases hlt : k < n
    · have hlt' : (k : Int) < (n : Int) := by omega
      have k0 : (0 : Int) ≤ (k : Int) := by omega
      obtain ⟨x, hx⟩ : ∃ x, l1[k]? = some x := ⟨l1[k]'(by rw [HN.out]; omega), List.getElem?_eq_getElem _⟩
      obtain ⟨g, rfl, hg, hgl, hcell, hfz⟩ := HO.out.at k x hx
      obtain ⟨h1, h2⟩ := HO.out.set k (-7)
      have HO2 := Lib.hid h1
      have HF2 := Lib.hid (HF.out.trans h2)
      clear h1 h2 hx hg hgl
      go_wp2_with fail
      go_roundw
      case rel => exact ⟨k + 1, _, by omega, by go_num, by rw [List.length_set]; exact HN.out, HO2.out, HF2.out⟩
      case measure => simp [intOf]; omega
    · obtain rfl : k = n := by omega
      go_wp2_with fail
      go_end0
      exact ⟨rfl, HF.out⟩
end Go.Proofs.Ytaokogeblpjabaa
