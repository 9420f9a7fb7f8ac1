/- awake. -/
import Derived.Test.YtaokogeblpjabaaWg
namespace Go.Proofs.Ytaokogeblpjabaa
open Go.RowKit
theorem theL_nil {p : Int → Bool} (h : ∀ x, p x = false) : theL p = [] := by
  apply sorted_ext _ _ (theL_sorted p) List.Pairwise.nil
  intro x
  rw [mem_theL, h x]
  simp
theorem theL_one {p : Int → Bool} (n : Int) (h0 : 0 ≤ n) (h1 : n < 8192) (h : ∀ x, p x = true ↔ x = n) : theL p = [n] := by
  apply sorted_ext _ _ (theL_sorted p) (by simp)
  intro x
  rw [mem_theL, h x]
  constructor
  · rintro ⟨_, _, e⟩; simp [e]
  · intro e
    obtain rfl : x = n := by simpa using e
    exact ⟨h0, h1, rfl⟩
def g0 : Int → Nat := fun _ => 0
def g1 : Int → Nat := fun x => if x = 5 then 1 else 0
def g2 : Int → Nat := fun x => if x = 5 then 1 else if x = 6 then 1 else 0
def g3 : Int → Nat := fun x => if x = 5 then 3 else if x = 6 then 3 else 0
def g4 : Int → Nat := fun x => if x = 5 then 2 else if x = 6 then 3 else 0
def g5 : Int → Nat := fun x => if x = 5 then 2 else if x = 6 then 3 else if x = 7 then 1 else 0
def g6 : Int → Nat := fun x => if x = 6 then 1 else if x = 7 then 1 else 0
def g7 : Int → Nat := fun x => if x = 7 then 1 else 0
theorem s1 : needE g0 0 5 = 0 ∧ needF g0 0 5 = g1 := by
  refine ⟨by decide, ?_⟩
  funext x
  have e : (g0 5).testBit (0 : Int).toNat = false := by decide
  simp only [needF, e]
  rw [if_pos (by decide)]
  unfold updI g1
  by_cases h5 : x = 5
  · subst h5; decide
  · simp [h5, g0]
theorem s2 : needE g1 0 6 = 0 ∧ needF g1 0 6 = g2 := by
  refine ⟨by decide, ?_⟩
  funext x
  have e : (g1 6).testBit (0 : Int).toNat = false := by decide
  simp only [needF, e]
  rw [if_pos (by decide)]
  unfold updI g2
  by_cases h5 : x = 6
  · subst h5; decide
  · simp [h5, g1]
theorem ofNone {f : Int → Nat} {a : Nat} (h : ∀ x, (f x).testBit a = false) : ofL f a = [] := by
  unfold ofL
  split
  · exact theL_nil (fun x => by unfold pOf; rw [Int.toNat_natCast]; exact h x)
  · rfl
theorem s3 : likeE g2 0 1 = 0 ∧ likeF g2 0 1 = g3 := by
  have h : ofL g2 1 = [] := ofNone (a := 1) (fun x => by
    unfold g2
    split
    · decide
    · split <;> decide)
  have ho : okL 0 1 := by decide
  refine ⟨by unfold likeE; rw [if_pos ho, if_pos h], ?_⟩
  unfold likeF
  rw [if_pos ⟨ho, h⟩]
  funext x
  unfold likeF1 g2 g3
  by_cases h5 : x = 5
  · subst h5; decide
  · by_cases h6 : x = 6
    · subst h6; decide
    · simp [h5, h6]
theorem s4 : giveE g3 0 5 = 0 ∧ giveR g3 0 5 = false ∧ giveF g3 0 5 = g4 := by
  refine ⟨by decide, by decide, ?_⟩
  funext x
  have e : (g3 5).testBit (0 : Int).toNat = true := by decide
  simp only [giveF, e]
  rw [if_pos (by decide)]
  unfold updI g4
  by_cases h5 : x = 5
  · subst h5; decide
  · simp [h5, g3]
theorem s5 : needE g4 0 7 = 0 ∧ needF g4 0 7 = g5 := by
  refine ⟨by decide, ?_⟩
  funext x
  have e : (g4 7).testBit (0 : Int).toNat = false := by decide
  simp only [needF, e]
  rw [if_pos (by decide)]
  unfold updI g5
  by_cases h5 : x = 7
  · subst h5; decide
  · simp [h5, g4]
theorem s6 : dropE 1 = 0 ∧ dropL g5 1 = [5] ∧ dropF g5 1 = g6 := by
  have ho : okT 1 := by decide
  refine ⟨by decide, ?_, ?_⟩
  · unfold dropL
    rw [if_pos ho]
    refine theL_one 5 (by omega) (by omega) fun x => ?_
    unfold g5
    by_cases h5 : x = 5
    · subst h5; decide
    · by_cases h6 : x = 6
      · subst h6; decide
      · by_cases h7 : x = 7
        · subst h7; decide
        · simp only [h5, h6, h7, if_false]; decide
  · unfold dropF
    rw [if_pos ho]
    funext x
    unfold dropF1 g5 g6
    by_cases h5 : x = 5
    · subst h5; decide
    · by_cases h6 : x = 6
      · subst h6; decide
      · by_cases h7 : x = 7
        · subst h7; decide
        · simp only [h5, h6, h7, if_false]; decide
theorem s7 : giveE g6 0 6 = 0 ∧ giveR g6 0 6 = true ∧ giveF g6 0 6 = g7 := by
  refine ⟨by decide, by decide, ?_⟩
  funext x
  have e : (g6 6).testBit (0 : Int).toNat = true := by decide
  simp only [giveF, e]
  rw [if_pos (by decide)]
  unfold updI g7
  by_cases h5 : x = 6
  · subst h5; decide
  · simp [h5, g6]
theorem s8 : allL g7 = [7] := by
  unfold allL
  refine theL_one 7 (by omega) (by omega) fun x => ?_
  unfold g7 pAll
  by_cases h7 : x = 7
  · simp [h7]
  · simp [h7]
theorem OwnI.as {B : Nat} {l : List Int} {v : Value} {w : World} (h : OwnI B l v w) : ∃ A c, v = .slice A l.length c ∧ SliceAt w A l.length (l.map I64) := h.slice
theorem row_as {w : World} {b : Nat} {x : Int} (h : RowAt w b 3 [.int .i64 x]) : ∃ A c, Value.slice (some ⟨b, 0, none⟩) 1 1 = .slice A [x].length c ∧ SliceAt w A [x].length ([x].map I64) := ⟨_, 1, rfl, SliceAt.row h⟩
set_option maxHeartbeats 2000000 in
theorem awake_any (w : World) : Calls Try.prog 6 #[] w fun e w' => e = .returned (.bool true) ∧ Below w.heap.size w w' := by
  go_enter Try.func6, Try.ntmps6
  go_wp2_with fail
  refine (new_any w).mono ?_
  rintro e w1 ⟨rfl, hd, hb⟩
  obtain ⟨t, ht⟩ : ∃ t, t = w.heap.size + 1 := ⟨_, rfl⟩
  obtain ⟨b, hbb⟩ : ∃ b, b = w.heap.size := ⟨_, rfl⟩
  rw [← ht, ← hbb] at hd
  rw [← ht]
  have HT : Hid (t = w.heap.size + 1 ∧ b = w.heap.size) := Lib.hid ⟨ht, hbb⟩
  have HD := Lib.hid hd
  have HB := Lib.hid hb
  clear ht hbb hd hb
  go_wp2_with fail
  have h := need_any w1 t b g0 HD.out 0 5
  rw [s1.1, s1.2] at h
  refine h.mono ?_
  clear h
  rintro e w2 ⟨rfl, hd, hf⟩
  have HD2 := Lib.hid hd
  have HB2 := Lib.hid (Below.trans HB.out (Fr.below hf HB.out.size (fun _ e => by have := HT.out; omega)))
  clear hd hf HD HB
  go_wp2_with fail
  have h := need_any w2 t b g1 HD2.out 0 6
  rw [s2.1, s2.2] at h
  refine h.mono ?_
  clear h
  rintro e w3 ⟨rfl, hd, hf⟩
  have HD3 := Lib.hid hd
  have HB3 := Lib.hid (Below.trans HB2.out (Fr.below hf HB2.out.size (fun _ e => by have := HT.out; omega)))
  clear hd hf HD2 HB2
  go_wp2_with fail
  have h := like_any w3 t b g2 HD3.out 0 1
  rw [s3.1, s3.2] at h
  refine h.mono ?_
  clear h
  rintro e w4 ⟨rfl, hd, hf⟩
  have HD4 := Lib.hid hd
  have HB4 := Lib.hid (Below.trans HB3.out (Fr.below hf HB3.out.size (fun _ e => by have := HT.out; omega)))
  clear hd hf HD3 HB3
  go_wp2_with fail
  have h := give_any w4 t b g3 HD4.out 0 5
  rw [s4.1, s4.2.1, s4.2.2] at h
  refine h.mono ?_
  clear h
  rintro e w5 ⟨rfl, hd, hf⟩
  have HD5 := Lib.hid hd
  have HB5 := Lib.hid (Below.trans HB4.out (Fr.below hf HB4.out.size (fun _ e => by have := HT.out; omega)))
  clear hd hf HD4 HB4
  go_wp2_with fail
  have h := need_any w5 t b g4 HD5.out 0 7
  rw [s5.1, s5.2] at h
  refine h.mono ?_
  clear h
  rintro e w6 ⟨rfl, hd, hf⟩
  have HD6 := Lib.hid hd
  have HB6 := Lib.hid (Below.trans HB5.out (Fr.below hf HB5.out.size (fun _ e => by have := HT.out; omega)))
  clear hd hf HD5 HB5
  go_wp2_with fail
  have h := drop_any w6 t b g5 HD6.out 1
  rw [s6.1, s6.2.1, s6.2.2] at h
  refine h.mono ?_
  clear h
  rintro e w7 ⟨v, rfl, ho, hd, hf⟩
  have HD7 := Lib.hid hd
  have HB7 := Lib.hid (Below.trans HB6.out (Fr.below hf HB6.out.size (fun _ e => by have := HT.out; omega)))
  have HLT : Hid (b < w6.heap.size) := Lib.hid HD6.out.lt.2
  have HO7 := Lib.hid ho
  clear hd hf HD6 HB6 ho
  go_wp2_with fail
  have h := give_any w7 t b g6 HD7.out 0 6
  rw [s7.1, s7.2.1, s7.2.2] at h
  refine h.mono ?_
  clear h
  rintro e w8 ⟨rfl, hd, hf⟩
  have HD8 := Lib.hid hd
  have HB8 := Lib.hid (Below.trans HB7.out (Fr.below hf HB7.out.size (fun _ e => by have := HT.out; omega)))
  have HO8 := Lib.hid (own_fr HO7.out hf (fun k e => by have := HLT.out; omega))
  clear hd hf HD7 HB7 HO7
  go_wp2_with fail
  have hal : Below w8.heap.size w8 (w8.alloc (.cells #[.int .i64 5] 3)) := (Below.refl _ _).alloc (Nat.le_refl _) _
  refine (same_any _ [5] [5] v _ (HO8.out.next hal).as (row_as (RowAt.new w8 3 [.int .i64 5])) (by simp)).mono ?_
  rintro e w9 ⟨rfl, hb⟩
  have HD9 := Lib.hid ((HD8.out.next hal).next hb)
  have HB9 := Lib.hid (bt (bt HB8.out hal) hb)
  clear hal hb HD8 HB8 HO8
  go_wp2_with fail
  have h := all_any w9 t b g7 HD9.out
  rw [s8] at h
  refine h.mono ?_
  clear h
  rintro e w10 ⟨v2, rfl, ho, hb⟩
  have HO10 := Lib.hid ho
  have HB10 := Lib.hid (bt HB9.out hb)
  clear ho hb HD9 HB9
  go_wp2_with fail
  have hal : Below w10.heap.size w10 (w10.alloc (.cells #[.int .i64 7] 3)) := (Below.refl _ _).alloc (Nat.le_refl _) _
  refine (same_any _ [7] [7] v2 _ (HO10.out.next hal).as (row_as (RowAt.new w10 3 [.int .i64 7])) (by simp)).mono ?_
  rintro e w11 ⟨rfl, hb⟩
  have HB11 := Lib.hid (bt (bt HB10.out hal) hb)
  clear hal hb HB10 HO10
  go_wp2_with fail
  all_goals refine bodyPost_ret (by simp [results, Try.results6, go_sem]; rfl) rfl ?_
  all_goals exact ⟨rfl, HB11.out⟩
end Go.Proofs.Ytaokogeblpjabaa
