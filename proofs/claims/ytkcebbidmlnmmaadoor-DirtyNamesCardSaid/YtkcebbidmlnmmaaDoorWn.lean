/- DirtyVerf, DirtyParts: the walks. -/
import Derived.Test.YtkcebbidmlnmmaaDoorWl
import Derived.Test.YtkcebbidmlnmmaaDoorWm
namespace Go.Proofs.YtkcebbidmlnmmaaDoor
open Go.RowKit
set_option maxRecDepth 20000 in
theorem verf_law (w : World) (n : Int) (h0 : -9223372036854775808 ≤ n) (h1 : n ≤ 9223372036854775807) (hi : Calls Tryd.prog 26 #[.int .i64 n] w fun e w' => e = .returned (.string ⟨(Lib.itoa n).toArray⟩) ∧ Below w.heap.size w w') :
    Calls Tryd.prog 3 #[.int .i64 n] w fun e w' => e = .returned (.bool true) ∧ Below w.heap.size w w' := by
  have HV := Lib.hid (verf_any w n h0 h1 hi)
  have HR : Hid (∀ w, Calls Tryd.prog 9 #[.int .i64 n] w fun e w' => e = .returned (.int .u64 (verfV n)) ∧ Below w.heap.size w w') := Lib.hid (fun w => rverf_any w n h0 h1)
  clear hi h0 h1
  generalize verfV n = x at *
  go_enter Tryd.func3, Tryd.ntmps3
  go_wp2_with fail
  refine HV.out.mono ?_
  rintro e w1 ⟨rfl, hb⟩
  have HB := Lib.hid hb
  clear hb
  go_wp2_with fail
  refine (HR.out w1).mono ?_
  rintro e w2 ⟨rfl, hb⟩
  have HB2 := Lib.hid (bt HB.out hb)
  clear hb HB
  have hx : (x == x) = true := by simp
  go_wp2_with fail
  refine (awake_any w2).mono ?_
  rintro e w3 ⟨rfl, hb⟩
  go_wp2_with fail
  all_goals refine bodyPost_ret (by simp [results, Tryd.results3, go_sem]; rfl) rfl ?_
  all_goals exact ⟨rfl, bt HB2.out hb⟩
/-- Two buffers, one beside the other: all of them made since w0 began. -/
def Tb (w0 W : World) (p q : Nat) (L L' : List Wr) : Prop := ∃ S S', Bf W p L S ∧ Bf W q L' S' ∧ (∀ i, S i → S' i → False) ∧ (∀ i, S i ∨ S' i → w0.heap.size ≤ i) ∧ Below w0.heap.size w0 W
section
variable {w0 W W' : World} {p q : Nat} {L L' : List Wr}
theorem Tb.symm (h : Tb w0 W p q L L') : Tb w0 W q p L' L := by
  obtain ⟨S, S', h1, h2, h3, h4, h5⟩ := h
  exact ⟨S', S, h2, h1, fun i a b => h3 i b a, fun i a => h4 i a.symm, h5⟩
theorem Tb.below (h : Tb w0 W p q L L') : Below w0.heap.size w0 W := by obtain ⟨_, _, _, _, _, _, h⟩ := h; exact h
theorem Tb.next (h : Tb w0 W p q L L') (hb : Below W.heap.size W W') : Tb w0 W' p q L L' := by
  obtain ⟨S, S', h1, h2, h3, h4, h5⟩ := h
  exact ⟨S, S', h1.next hb, h2.next hb, h3, h4, bt h5 hb⟩
end
theorem write_t (w0 w : World) (p q : Nat) (L L' : List Wr) (h : Tb w0 w p q L L') (k a : Int) (t : ByteArray) :
    Calls Tryd.prog 14 #[.pointer (some ⟨p, 0, none⟩), .int .i64 k, .int .i64 a, .string t] w fun e w' => e = .returned (.int .i64 (writeE L k a t)) ∧ Tb w0 w' p q (writeL L k a t) L' := by
  obtain ⟨S, S', h1, h2, h3, h4, h5⟩ := h
  refine (write_f w p L S h1 k a t).mono ?_
  rintro e w' ⟨rfl, S2, g1, g2, g3⟩
  refine ⟨rfl, S2, S', g1, h2.fr g2 h3, fun i x y => ?_, fun i x => ?_, h5.trans (g2.below h5.size (fun i x => h4 i (.inl x)))⟩
  · rcases g3 i x with x | x
    · exact h3 i x y
    · have := h2.up i y; omega
  · rcases x with x | x
    · rcases g3 i x with x | x
      · exact h4 i (.inl x)
      · exact Nat.le_trans h5.size x
    · exact h4 i (.inr x)
theorem over_t (w0 w : World) (p q : Nat) (L L' : List Wr) (h : Tb w0 w p q L L') (k : Int) (s : ByteArray) (hs : s.size ≤ 100000) :
    Calls Tryd.prog 13 #[.pointer (some ⟨p, 0, none⟩), .int .i64 k, .string s] w fun e w' => e = .returned (.string ⟨(overL (sub k L) s.data.toList).toArray⟩) ∧ Tb w0 w' p q L L' := by
  obtain ⟨S, S', h1, _⟩ := id h
  refine (over_f w p L S h1 k s hs).mono ?_
  rintro e w' ⟨rfl, hb⟩
  exact ⟨rfl, h.next hb⟩
theorem size_t (w0 w : World) (p q : Nat) (L L' : List Wr) (h : Tb w0 w p q L L') (k n : Int) :
    Calls Tryd.prog 15 #[.pointer (some ⟨p, 0, none⟩), .int .i64 k, .int .i64 n] w fun e w' => e = .returned (.int .i64 (sizeL (sub k L) n)) ∧ Tb w0 w' p q L L' := by
  obtain ⟨S, S', h1, _⟩ := id h
  refine (size_f w p L S h1 k n).mono ?_
  rintro e w' ⟨rfl, hb⟩
  exact ⟨rfl, h.next hb⟩
theorem held_t (w0 w : World) (p q : Nat) (L L' : List Wr) (h : Tb w0 w p q L L') :
    Calls Tryd.prog 16 #[.pointer (some ⟨p, 0, none⟩)] w fun e w' => e = .returned (.int .i64 (tot L : Int)) ∧ Tb w0 w' p q L L' := by
  obtain ⟨S, S', h1, _⟩ := id h
  refine (held_f w p L S h1).mono ?_
  rintro e w' ⟨rfl, hb⟩
  exact ⟨rfl, h.next hb⟩
theorem cut_n (c : Int) (m : Nat) (hm : m ≤ 3000) : ∃ n : Nat, n ≤ m ∧ (IntKind.u64.wrap c).tmod ((m : Int) + 1) = n ∧ wrap64 (n : Int) = n := by
  have h0 : 0 ≤ IntKind.u64.wrap c := by rw [IntKind.wrap_u64]; omega
  obtain ⟨x, hx⟩ : ∃ x : Nat, IntKind.u64.wrap c = x := ⟨(IntKind.u64.wrap c).toNat, by omega⟩
  rw [hx]
  have hlt := Nat.mod_lt x (show 0 < m + 1 by omega)
  refine ⟨x % (m + 1), by omega, ?_, IntWalk.wrap64_in _ (by omega)⟩
  rw [Int.tmod_eq_emod_of_nonneg (by omega), Int.natCast_emod]
  rfl
set_option maxHeartbeats 2000000 in
set_option maxRecDepth 20000 in
theorem parts_law (w : World) (a c : Int) (t s : ByteArray) : Calls Tryd.prog 5 #[.int .i64 a, .string t, .int .i64 c, .string s] w fun e w' => e = .returned (.bool true) ∧ Below w.heap.size w w' := by
  by_cases h1 : 3000 < t.size
  · have g1 : decide ((t.size : Int) > 3000) = true := by simp; omega
    go_enter Tryd.func5, Tryd.ntmps5
    go_wp2_with fail
    refine (awake_any w).mono ?_
    rintro e w1 ⟨rfl, hb⟩
    go_wp2_with fail
    all_goals refine bodyPost_ret (by simp [results, Tryd.results5, go_sem]; rfl) rfl ?_
    all_goals exact ⟨rfl, hb⟩
  have g1 : decide ((t.size : Int) > 3000) = false := by simp; omega
  by_cases h2 : 3000 < s.size
  · have g2 : decide ((s.size : Int) > 3000) = true := by simp; omega
    go_enter Tryd.func5, Tryd.ntmps5
    go_wp2_with fail
    refine (awake_any w).mono ?_
    rintro e w1 ⟨rfl, hb⟩
    go_wp2_with fail
    all_goals refine bodyPost_ret (by simp [results, Tryd.results5, go_sem]; rfl) rfl ?_
    all_goals exact ⟨rfl, hb⟩
  have g2 : decide ((s.size : Int) > 3000) = false := by simp; omega
  obtain ⟨n, hn, n1, n2⟩ := cut_n c t.size (by omega)
  have hs : s.size ≤ 100000 := by omega
  have hn0 : (0 : Int) ≤ (n : Int) := by omega
  have hnt : (n : Int) ≤ (t.size : Int) := by omega
  have HP := Lib.hid (parts_plain a t n hn)
  go_enter Tryd.func5, Tryd.ntmps5
  go_wp2_with fail
  refine (awake_any w).mono ?_
  rintro e w1 ⟨rfl, hb⟩
  have HB := Lib.hid hb
  clear hb
  go_wp2_with fail
  refine (new_f w1).mono ?_
  rintro e w2 ⟨rfl, ⟨S, s1, s2⟩, hb⟩
  have HS := Lib.hid s1
  have HS2 := Lib.hid s2
  have HB2 := Lib.hid (bt HB.out hb)
  have HZ := Lib.hid hb.size
  have HZ1 := Lib.hid HB.out.size
  clear s1 s2 hb HB
  generalize w1.heap.size + 1 = p at *
  go_wp2_with fail
  refine (new_f w2).mono ?_
  rintro e w3 ⟨rfl, ⟨S', s1, s2⟩, hb⟩
  have HT : Hid (Tb w w3 p (w2.heap.size + 1) [] []) := Lib.hid ⟨S, S', HS.out.next hb, s1, fun i x y => by
      have := HS.out.up i x
      have := s2 i y
      omega, fun i x => by
      have := HZ.out
      have := HZ1.out
      rcases x with x | x
      · have := HS2.out i x; omega
      · have := s2 i x; omega, bt HB2.out hb⟩
  clear HS HS2 HB2 s1 s2 hb HZ HZ1
  generalize w2.heap.size + 1 = q at *
  go_wp2_with fail
  have hdiv : ¬ ((t.size : Int) + 1 = 0) := by omega
  have e0 : IntKind.i64.wrap ((t.size : Int) + 1) = (t.size : Int) + 1 := IntWalk.i64_in _ (by omega)
  by_cases he : writeE [] 1 a t = 0
  · have h := write_t w w3 p q [] [] HT.out 1 a t
    rw [he] at h
    refine h.mono ?_
    clear h
    rintro e w4 ⟨rfl, hb⟩
    have HT4 := Lib.hid hb.symm
    clear hb HT
    obtain ⟨f1, f2, f3, f4, f5⟩ := HP.out he
    have a1 := (writeE_zero.1 he)
    have e1 : IntKind.i64.wrap (a + (n : Int)) = a + (n : Int) := IntWalk.i64_in _ (by omega)
    have F3 := Lib.hid f3
    have F4 := Lib.hid f4
    have F5 := Lib.hid f5
    clear f3 f4 f5 HP he a1
    go_wp2_with fail
    have h := write_t w w4 q p [] _ HT4.out 1 a (t.extract 0 n)
    rw [f1] at h
    refine h.mono ?_
    clear h
    rintro e w5 ⟨rfl, hb⟩
    have HT5 := Lib.hid hb
    clear hb HT4
    go_wp2_with fail
    have h := write_t w w5 q p _ _ HT5.out 1 (a + n) (t.extract n t.size)
    rw [f2] at h
    refine h.mono ?_
    clear h
    rintro e w6 ⟨rfl, hb⟩
    have HT6 := Lib.hid hb
    clear hb HT5 f1 f2
    generalize writeL (writeL [] 1 a (t.extract 0 n)) 1 (a + ↑n) (t.extract n t.size) = L' at *
    generalize writeL [] 1 a t = L at *
    go_wp2_with fail
    refine (over_t w w6 p q L L' HT6.out.symm 1 s hs).mono ?_
    rintro e w7 ⟨rfl, hb⟩
    have HT7 := Lib.hid hb
    clear hb HT6
    go_wp2_with fail
    have h := over_t w w7 q p L' L HT7.out.symm 1 s hs
    rw [F4.out] at h
    refine h.mono ?_
    clear h
    rintro e w8 ⟨rfl, hb⟩
    have HT8 := Lib.hid hb
    clear hb HT7
    generalize (⟨(overL (sub 1 L) s.data.toList).toArray⟩ : ByteArray) = r at *
    go_wp2_with fail
    refine (held_t w w8 p q L L' HT8.out.symm).mono ?_
    rintro e w9 ⟨rfl, hb⟩
    have HT9 := Lib.hid hb
    clear hb HT8
    go_wp2_with fail
    have h := held_t w w9 q p L' L HT9.out.symm
    rw [F3.out] at h
    refine h.mono ?_
    clear h
    rintro e w10 ⟨rfl, hb⟩
    have HT10 := Lib.hid hb
    clear hb HT9
    have hr2 : ((tot L : Int) == (tot L : Int)) = true := by simp
    go_wp2_with fail
    refine (size_t w w10 p q L L' HT10.out.symm 1 s.size).mono ?_
    rintro e w11 ⟨rfl, hb⟩
    have HT11 := Lib.hid hb
    clear hb HT10
    go_wp2_with fail
    have h := size_t w w11 q p L' L HT11.out.symm 1 s.size
    rw [F5.out] at h
    refine h.mono ?_
    clear h
    rintro e w12 ⟨rfl, hb⟩
    have HT12 := Lib.hid hb
    clear hb HT11
    generalize sizeL (sub 1 L) (s.size : Int) = y at *
    have hr3 : (y == y) = true := by simp
    go_wp2_with fail
    all_goals refine bodyPost_ret (by simp [results, Tryd.results5, go_sem]; rfl) rfl ?_
    all_goals exact ⟨rfl, HT12.out.below⟩
  · have h := write_t w w3 p q [] [] HT.out 1 a t
    have hl : writeL [] 1 a t = [] := by unfold writeL; rw [if_neg (fun x => he x.1)]
    rw [hl] at h
    refine h.mono ?_
    clear h
    rintro e w4 ⟨rfl, hb⟩
    have HT4 := Lib.hid hb.symm
    clear hb HT HP
    have hx : (writeE [] 1 a t == 0) = false := by simpa using he
    generalize writeE [] 1 a t = x at *
    go_wp2_with fail
    refine (write_t w w4 q p [] _ HT4.out 1 a (t.extract 0 n)).mono ?_
    rintro e w5 ⟨rfl, hb⟩
    have HT5 := Lib.hid hb
    clear hb HT4
    go_wp2_with fail
    refine (held_t w w5 p q _ _ HT5.out.symm).mono ?_
    rintro e w6 ⟨rfl, hb⟩
    go_wp2_with fail
    all_goals refine bodyPost_ret (by simp [results, Tryd.results5, go_sem]; rfl) rfl ?_
    all_goals exact ⟨rfl, hb.below⟩
end Go.Proofs.YtkcebbidmlnmmaaDoor
