/- DeadNames: the walk. -/
import Derived.Test.YtaokogeblpjabaaWh
namespace Go.Proofs.Ytaokogeblpjabaa
open Go.RowKit
theorem give_nil (w : World) (a k : Int) : Calls Try.prog 10 #[.pointer none, .int .i64 a, .int .i64 k] w fun e w' => e = .returned (.tuple #[.bool false, .int .i64 2]) ∧ w' = w := by
  go_enter Try.func10, Try.ntmps10
  go_wp2_with fail
  refine (none_nil w).mono ?_
  rintro e w' ⟨rfl, hw⟩
  rw [hw]
  clear hw w'
  go_wp2_with fail
  all_goals refine bodyPost_ret (by simp [results, Try.results10, go_sem]; rfl) rfl ?_
  all_goals exact ⟨rfl, rfl⟩
theorem drop_nil (w : World) (a : Int) : Calls Try.prog 13 #[.pointer none, .int .i64 a] w fun e w' => e = .returned (.tuple #[.slice none 0 0, .int .i64 2]) ∧ w' = w := by
  go_enter Try.func13, Try.ntmps13
  go_wp2_with fail
  refine (none_nil w).mono ?_
  rintro e w' ⟨rfl, hw⟩
  rw [hw]
  clear hw w'
  go_wp2_with fail
  all_goals refine bodyPost_ret (by simp [results, Try.results13, go_sem]; rfl) rfl ?_
  all_goals exact ⟨rfl, rfl⟩
theorem need_nil (w : World) (a k : Int) : Calls Try.prog 9 #[.pointer none, .int .i64 a, .int .i64 k] w fun e w' => e = .returned (.int .i64 2) ∧ w' = w := by
  go_enter Try.func9, Try.ntmps9
  go_wp2_with fail
  refine (none_nil w).mono ?_
  rintro e w' ⟨rfl, hw⟩
  rw [hw]
  clear hw w'
  go_wp2_with fail
  all_goals refine bodyPost_ret (by simp [results, Try.results9, go_sem]; rfl) rfl ?_
  all_goals exact ⟨rfl, rfl⟩
theorem like_nil (w : World) (a k : Int) : Calls Try.prog 11 #[.pointer none, .int .i64 a, .int .i64 k] w fun e w' => e = .returned (.int .i64 2) ∧ w' = w := by
  go_enter Try.func11, Try.ntmps11
  go_wp2_with fail
  refine (none_nil w).mono ?_
  rintro e w' ⟨rfl, hw⟩
  rw [hw]
  clear hw w'
  go_wp2_with fail
  all_goals refine bodyPost_ret (by simp [results, Try.results11, go_sem]; rfl) rfl ?_
  all_goals exact ⟨rfl, rfl⟩
theorem who_nil (w : World) (a : Int) : Calls Try.prog 15 #[.pointer none, .int .i64 a] w fun e w' => e = .returned (.slice none 0 0) ∧ w' = w := by
  go_enter Try.func15, Try.ntmps15
  go_wp2_with fail
  refine (none_nil w).mono ?_
  rintro e w' ⟨rfl, hw⟩
  rw [hw]
  clear hw w'
  go_wp2_with fail
  all_goals refine bodyPost_ret (by simp [results, Try.results15, go_sem]; rfl) rfl ?_
  all_goals exact ⟨rfl, rfl⟩
theorem all_nil (w : World) : Calls Try.prog 8 #[.pointer none] w fun e w' => e = .returned (.slice none 0 0) ∧ w' = w := by
  go_enter Try.func8, Try.ntmps8
  go_wp2_with fail
  refine (none_nil w).mono ?_
  rintro e w' ⟨rfl, hw⟩
  rw [hw]
  clear hw w'
  go_wp2_with fail
  all_goals refine bodyPost_ret (by simp [results, Try.results8, go_sem]; rfl) rfl ?_
  all_goals exact ⟨rfl, rfl⟩
theorem copy_nil (w : World) : Calls Try.prog 16 #[.pointer none] w fun e w' => e = .returned (.pointer none) ∧ w' = w := by
  go_enter Try.func16, Try.ntmps16
  go_wp2_with fail
  all_goals refine bodyPost_ret (by simp [results, Try.results16, go_sem]; rfl) rfl ?_
  all_goals exact ⟨rfl, rfl⟩
theorem of_nil (w : World) (a : Int) : Calls Try.prog 12 #[.pointer none, .int .i64 a] w fun e w' => e = .returned (.slice none 0 0) ∧ Below w.heap.size w w' := by
  have hal : Below w.heap.size w (w.alloc (.cells #[.int .i64 a] 3)) := (Below.refl _ _).alloc (Nat.le_refl _) _
  have HN := Lib.hid (none_nil (w.alloc (.cells #[.int .i64 a] 3)))
  go_enter Try.func12, Try.ntmps12
  go_wp2_with fail
  refine HN.out.mono ?_
  rintro e w' ⟨rfl, hw⟩
  rw [hw]
  clear hw w' HN
  go_wp2_with fail
  all_goals refine bodyPost_ret (by simp [results, Try.results12, go_sem]; rfl) rfl ?_
  all_goals exact ⟨rfl, hal⟩
def h1 : Int → Nat := fun x => if x = 8191 then 64 else 0
def h2 : Int → Nat := fun x => if x = 2 then 1 else if x = 8191 then 64 else 0
def h3 : Int → Nat := fun x => if x = 2 then 1 else if x = 8191 then 66 else 0
theorem n1 : needE g0 6 8191 = 0 ∧ needF g0 6 8191 = h1 := by
  refine ⟨by decide, ?_⟩
  funext x
  have e : (g0 8191).testBit (6 : Int).toNat = false := by decide
  simp only [needF, e]
  rw [if_pos (by decide)]
  unfold updI h1
  by_cases h5 : x = 8191
  · subst h5; decide
  · simp [h5, g0]
theorem n2 : needE h1 6 8191 = 6 ∧ needF h1 6 8191 = h1 := by
  refine ⟨by decide, ?_⟩
  have e : (h1 8191).testBit (6 : Int).toNat = true := by decide
  simp only [needF, e]
  rw [if_pos (by decide)]
  rfl
theorem n3 : needE h1 0 2 = 0 ∧ needF h1 0 2 = h2 := by
  refine ⟨by decide, ?_⟩
  funext x
  have e : (h1 2).testBit (0 : Int).toNat = false := by decide
  simp only [needF, e]
  rw [if_pos (by decide)]
  unfold updI h2
  by_cases h5 : x = 2
  · subst h5; decide
  · simp [h5, h1]
theorem n4 : giveE h2 1 2 = 5 ∧ giveR h2 1 2 = false ∧ giveF h2 1 2 = h2 := by
  refine ⟨by decide, by decide, ?_⟩
  have e : (h2 2).testBit (1 : Int).toNat = false := by decide
  simp only [giveF, e]
  rw [if_pos (by decide)]
  rfl
theorem n5 : likeE h2 0 0 = 1 ∧ likeF h2 0 0 = h2 := by
  have h : ¬ okL 0 0 := by decide
  exact ⟨by unfold likeE; rw [if_neg h], by unfold likeF; rw [if_neg (fun x => h x.1)]⟩
theorem n6 : likeE h2 0 6 = 50 ∧ likeF h2 0 6 = h2 := by
  have ho : okL 0 6 := by decide
  have h : ¬ ofL h2 6 = [] := by
    have e : (8191 : Int) ∈ ofL h2 6 := by
      unfold ofL
      rw [if_pos (by decide), mem_theL]
      exact ⟨by omega, by omega, by decide⟩
    intro h'
    rw [h'] at e
    cases e
  exact ⟨by unfold likeE; rw [if_pos ho, if_neg h], by unfold likeF; rw [if_neg (fun x => h x.2)]⟩
theorem n7 : likeE h2 0 7 = 1 ∧ likeF h2 0 7 = h2 := by
  have h : ¬ okL 0 7 := by decide
  exact ⟨by unfold likeE; rw [if_neg h], by unfold likeF; rw [if_neg (fun x => h x.1)]⟩
theorem n8 : likeE h2 6 1 = 0 ∧ likeF h2 6 1 = h3 := by
  have h : ofL h2 1 = [] := ofNone (a := 1) (fun x => by
    unfold h2
    split
    · decide
    · split <;> decide)
  have ho : okL 6 1 := by decide
  refine ⟨by unfold likeE; rw [if_pos ho, if_pos h], ?_⟩
  unfold likeF
  rw [if_pos ⟨ho, h⟩]
  funext x
  unfold likeF1 h2 h3
  by_cases h5 : x = 2
  · subst h5; decide
  · by_cases h6 : x = 8191
    · subst h6; decide
    · simp [h5, h6]
theorem n9 : giveE h3 7 2 = 1 ∧ giveR h3 7 2 = false ∧ giveF h3 7 2 = h3 := by
  have h : ¬ (okT 7 ∧ okB 2) := by decide
  exact ⟨by unfold giveE; rw [if_neg h], by unfold giveR; rw [if_neg h], by unfold giveF; rw [if_neg h]⟩
theorem n10 : dropE (-1) = 1 ∧ dropL h3 (-1) = [] ∧ dropF h3 (-1) = h3 := by
  have h : ¬ okT (-1) := by decide
  exact ⟨by unfold dropE; rw [if_neg h], by unfold dropL; rw [if_neg h], by unfold dropF; rw [if_neg h]⟩
theorem n11 : whoK 7 (h3 8191) = [1, 6] := by decide
theorem n12 {k a : Int} (h : ¬ (okT a ∧ okB k)) : needE g0 a k = 1 ∧ needF g0 a k = g0 := ⟨by unfold needE; rw [if_neg h], by unfold needF; rw [if_neg h]⟩
theorem row_as2 {w : World} {b : Nat} {x y : Int} (h : RowAt w b 3 [.int .i64 x, .int .i64 y]) : ∃ A c, Value.slice (some ⟨b, 0, none⟩) 2 2 = .slice A [x, y].length c ∧ SliceAt w A [x, y].length ([x, y].map I64) := ⟨_, 2, rfl, SliceAt.row h⟩
set_option maxRecDepth 20000 in
set_option maxHeartbeats 4000000 in
theorem names_law (w : World) : Calls Try.prog 5 #[] w fun e w' => e = .returned (.bool true) ∧ Below w.heap.size w w' := by
  go_enter Try.func5, Try.ntmps5
  go_wp2_with fail
  refine (give_nil w 0 5).mono ?_
  rintro e w' ⟨rfl, hw⟩
  rw [hw]
  clear hw w'
  go_wp2_with fail
  refine (drop_nil w 0).mono ?_
  rintro e w' ⟨rfl, hw⟩
  rw [hw]
  clear hw w'
  go_wp2_with fail
  refine (new_any w).mono ?_
  rintro e w1 ⟨rfl, hd, hb⟩
  obtain ⟨t, ht⟩ : ∃ t, t = w.heap.size + 1 := ⟨_, rfl⟩
  obtain ⟨b, hbb⟩ : ∃ b, b = w.heap.size := ⟨_, rfl⟩
  rw [← ht, ← hbb] at hd
  rw [← ht]
  have HT : Hid (t = w.heap.size + 1 ∧ b = w.heap.size) := Lib.hid ⟨ht, hbb⟩
  have HD1 := Lib.hid hd
  have HB1 := Lib.hid hb
  clear ht hbb hd hb
  go_wp2_with fail
  have h := need_any w1 t b g0 HD1.out (-1) 5
  rw [(n12 (k := 5) (a := -1) (by decide)).1, (n12 (k := 5) (a := -1) (by decide)).2] at h
  refine h.mono ?_
  clear h
  rintro e w2 ⟨rfl, hd, hf⟩
  have HD2 := Lib.hid hd
  have HB2 := Lib.hid (Below.trans HB1.out (Fr.below hf HB1.out.size (fun _ e => by have := HT.out; omega)))
  clear hd hf HD1 HB1
  go_wp2_with fail
  have h := need_any w2 t b g0 HD2.out 7 5
  rw [(n12 (k := 5) (a := 7) (by decide)).1, (n12 (k := 5) (a := 7) (by decide)).2] at h
  refine h.mono ?_
  clear h
  rintro e w3 ⟨rfl, hd, hf⟩
  have HD3 := Lib.hid hd
  have HB3 := Lib.hid (Below.trans HB2.out (Fr.below hf HB2.out.size (fun _ e => by have := HT.out; omega)))
  clear hd hf HD2 HB2
  go_wp2_with fail
  have h := need_any w3 t b g0 HD3.out 0 1
  rw [(n12 (k := 1) (a := 0) (by decide)).1, (n12 (k := 1) (a := 0) (by decide)).2] at h
  refine h.mono ?_
  clear h
  rintro e w4 ⟨rfl, hd, hf⟩
  have HD4 := Lib.hid hd
  have HB4 := Lib.hid (Below.trans HB3.out (Fr.below hf HB3.out.size (fun _ e => by have := HT.out; omega)))
  clear hd hf HD3 HB3
  go_wp2_with fail
  have h := need_any w4 t b g0 HD4.out 0 8192
  rw [(n12 (k := 8192) (a := 0) (by decide)).1, (n12 (k := 8192) (a := 0) (by decide)).2] at h
  refine h.mono ?_
  clear h
  rintro e w5 ⟨rfl, hd, hf⟩
  have HD5 := Lib.hid hd
  have HB5 := Lib.hid (Below.trans HB4.out (Fr.below hf HB4.out.size (fun _ e => by have := HT.out; omega)))
  clear hd hf HD4 HB4
  go_wp2_with fail
  have h := need_any w5 t b g0 HD5.out 6 8191
  rw [n1.1, n1.2] at h
  refine h.mono ?_
  clear h
  rintro e w6 ⟨rfl, hd, hf⟩
  have HD6 := Lib.hid hd
  have HB6 := Lib.hid (Below.trans HB5.out (Fr.below hf HB5.out.size (fun _ e => by have := HT.out; omega)))
  clear hd hf HD5 HB5
  go_wp2_with fail
  have h := need_any w6 t b h1 HD6.out 6 8191
  rw [n2.1, n2.2] at h
  refine h.mono ?_
  clear h
  rintro e w7 ⟨rfl, hd, hf⟩
  have HD7 := Lib.hid hd
  have HB7 := Lib.hid (Below.trans HB6.out (Fr.below hf HB6.out.size (fun _ e => by have := HT.out; omega)))
  clear hd hf HD6 HB6
  go_wp2_with fail
  have h := need_any w7 t b h1 HD7.out 0 2
  rw [n3.1, n3.2] at h
  refine h.mono ?_
  clear h
  rintro e w8 ⟨rfl, hd, hf⟩
  have HD8 := Lib.hid hd
  have HB8 := Lib.hid (Below.trans HB7.out (Fr.below hf HB7.out.size (fun _ e => by have := HT.out; omega)))
  clear hd hf HD7 HB7
  go_wp2_with fail
  have h := give_any w8 t b h2 HD8.out 1 2
  rw [n4.1, n4.2.1, n4.2.2] at h
  refine h.mono ?_
  clear h
  rintro e w9 ⟨rfl, hd, hf⟩
  have HD9 := Lib.hid hd
  have HB9 := Lib.hid (Below.trans HB8.out (Fr.below hf HB8.out.size (fun _ e => by have := HT.out; omega)))
  clear hd hf HD8 HB8
  go_wp2_with fail
  have h := like_any w9 t b h2 HD9.out 0 0
  rw [n5.1, n5.2] at h
  refine h.mono ?_
  clear h
  rintro e w10 ⟨rfl, hd, hf⟩
  have HD10 := Lib.hid hd
  have HB10 := Lib.hid (Below.trans HB9.out (Fr.below hf HB9.out.size (fun _ e => by have := HT.out; omega)))
  clear hd hf HD9 HB9
  go_wp2_with fail
  have h := like_any w10 t b h2 HD10.out 0 6
  rw [n6.1, n6.2] at h
  refine h.mono ?_
  clear h
  rintro e w11 ⟨rfl, hd, hf⟩
  have HD11 := Lib.hid hd
  have HB11 := Lib.hid (Below.trans HB10.out (Fr.below hf HB10.out.size (fun _ e => by have := HT.out; omega)))
  clear hd hf HD10 HB10
  go_wp2_with fail
  have h := like_any w11 t b h2 HD11.out 0 7
  rw [n7.1, n7.2] at h
  refine h.mono ?_
  clear h
  rintro e w12 ⟨rfl, hd, hf⟩
  have HD12 := Lib.hid hd
  have HB12 := Lib.hid (Below.trans HB11.out (Fr.below hf HB11.out.size (fun _ e => by have := HT.out; omega)))
  clear hd hf HD11 HB11
  go_wp2_with fail
  have h := like_any w12 t b h2 HD12.out 6 1
  rw [n8.1, n8.2] at h
  refine h.mono ?_
  clear h
  rintro e w13 ⟨rfl, hd, hf⟩
  have HD13 := Lib.hid hd
  have HB13 := Lib.hid (Below.trans HB12.out (Fr.below hf HB12.out.size (fun _ e => by have := HT.out; omega)))
  clear hd hf HD12 HB12
  go_wp2_with fail
  have h := give_any w13 t b h3 HD13.out 7 2
  rw [n9.1, n9.2.1, n9.2.2] at h
  refine h.mono ?_
  clear h
  rintro e w14 ⟨rfl, hd, hf⟩
  have HD14 := Lib.hid hd
  have HB14 := Lib.hid (Below.trans HB13.out (Fr.below hf HB13.out.size (fun _ e => by have := HT.out; omega)))
  clear hd hf HD13 HB13
  go_wp2_with fail
  have h := drop_any w14 t b h3 HD14.out (-1)
  rw [n10.1, n10.2.1, n10.2.2] at h
  refine h.mono ?_
  clear h
  rintro e w15 ⟨vd, rfl, ho, hd, hf⟩
  have HD15 := Lib.hid hd
  have HB15 := Lib.hid (Below.trans HB14.out (Fr.below hf HB14.out.size (fun _ e => by have := HT.out; omega)))
  clear ho
  clear hd hf HD14 HB14
  go_wp2_with fail
  refine (need_nil w15 0 5).mono ?_
  rintro e w' ⟨rfl, hw⟩
  rw [hw]
  clear hw w'
  go_wp2_with fail
  refine (like_nil w15 0 1).mono ?_
  rintro e w' ⟨rfl, hw⟩
  rw [hw]
  clear hw w'
  go_wp2_with fail
  refine (of_nil w15 0).mono ?_
  rintro e w16 ⟨rfl, hb⟩
  have HD16 := Lib.hid (HD15.out.next hb)
  have HB16 := Lib.hid (bt HB15.out hb)
  clear hb HD15 HB15
  go_wp2_with fail
  refine (who_nil w16 5).mono ?_
  rintro e w' ⟨rfl, hw⟩
  rw [hw]
  clear hw w'
  go_wp2_with fail
  refine (all_nil w16).mono ?_
  rintro e w' ⟨rfl, hw⟩
  rw [hw]
  clear hw w'
  go_wp2_with fail
  refine (copy_nil w16).mono ?_
  rintro e w' ⟨rfl, hw⟩
  rw [hw]
  clear hw w'
  go_wp2_with fail
  have h := who_any w16 t b h3 HD16.out 8191
  rw [n11] at h
  refine h.mono ?_
  clear h
  rintro e w17 ⟨v, rfl, ho, hb⟩
  have HO := Lib.hid ho
  have HB17 := Lib.hid (bt HB16.out hb)
  clear ho hb HD16 HB16
  go_wp2_with fail
  have hal : Below w17.heap.size w17 (w17.alloc (.cells #[.int .i64 1, .int .i64 6] 3)) := (Below.refl _ _).alloc (Nat.le_refl _) _
  refine (same_any _ [1, 6] [1, 6] v _ (HO.out.next hal).as (row_as2 (RowAt.new w17 3 [.int .i64 1, .int .i64 6])) (by simp)).mono ?_
  rintro e w18 ⟨rfl, hb⟩
  have HB18 := Lib.hid (bt (bt HB17.out hal) hb)
  clear hal hb HB17 HO
  go_wp2_with fail
  refine (awake_any w18).mono ?_
  rintro e w19 ⟨rfl, hb⟩
  have HB19 := Lib.hid (bt HB18.out hb)
  clear hb HB18
  go_wp2_with fail
  all_goals refine bodyPost_ret (by simp [results, Try.results5, go_sem]; rfl) rfl ?_
  all_goals exact ⟨rfl, HB19.out⟩
end Go.Proofs.Ytaokogeblpjabaa
