/- DirtyPlays: the walk. -/
import Derived.Test.YtkcebbidmlnmmaaDoorXp
import Derived.Test.YtkcebbidmlnmmaaDoorXe
namespace Go.Proofs.YtkcebbidmlnmmaaDoor
open Go.RowKit
theorem do_any (w : World) (p q : Nat) (L : List Wr) (S : Nat → Prop) (h : Pr w p q L S) (kd : Nat) (k a : Int) (t : ByteArray) (ht : t.size ≤ 100000) (ha : a ≤ 9223372036854775807) :
    Calls Tryd.prog 19 #[.agg #[.int .u8 (kd : Int), .int .i64 k, .int .i64 a, .string t], .pointer (some ⟨p, 0, none⟩), .pointer (some ⟨q, 0, none⟩)] w fun e w' => e = .returned (.bool true) ∧ PGo w p q S (stepL L kd k a t) w' := by
  unfold stepL
  by_cases h0 : kd = 0
  · subst h0
    rw [if_pos rfl]
    exact do_write w p q L S h k a t ht
  · rw [if_neg h0]
    by_cases h1 : kd = 1
    · subst h1
      rw [if_pos rfl]
      exact do_cut w p q L S h k a t ha
    · rw [if_neg h1]
      exact do_take w p q L S h kd k a t h0 h1
/-- Two pairs, one beside the other, all of them made since w0 began. -/
def Qd (w0 W : World) (p q p2 q2 : Nat) (L L2 : List Wr) : Prop := ∃ S T, Pr W p q L S ∧ Pr W p2 q2 L2 T ∧ (∀ i, S i → T i → False) ∧ (∀ i, S i ∨ T i → w0.heap.size ≤ i) ∧ Below w0.heap.size w0 W
/-- A pair alone. -/
def Qs (w0 W : World) (p q : Nat) (L : List Wr) : Prop := ∃ S, Pr W p q L S ∧ (∀ i, S i → w0.heap.size ≤ i) ∧ Below w0.heap.size w0 W
section
variable {w0 W W' : World} {p q p2 q2 : Nat} {L L2 : List Wr}
theorem Qd.symm (h : Qd w0 W p q p2 q2 L L2) : Qd w0 W p2 q2 p q L2 L := by
  obtain ⟨S, T, h1, h2, h3, h4, h5⟩ := h
  exact ⟨T, S, h2, h1, fun i a b => h3 i b a, fun i a => h4 i a.symm, h5⟩
theorem Qd.below (h : Qd w0 W p q p2 q2 L L2) : Below w0.heap.size w0 W := by obtain ⟨_, _, _, _, _, _, h⟩ := h; exact h
theorem Qs.below (h : Qs w0 W p q L) : Below w0.heap.size w0 W := by obtain ⟨_, _, _, h⟩ := h; exact h
theorem Qd.next (h : Qd w0 W p q p2 q2 L L2) (hb : Below W.heap.size W W') : Qd w0 W' p q p2 q2 L L2 := by
  obtain ⟨S, T, h1, h2, h3, h4, h5⟩ := h
  exact ⟨S, T, h1.next hb, h2.next hb, h3, h4, bt h5 hb⟩
theorem Qd.one (h : Qd w0 W p q p2 q2 L L2) : Qs w0 W p q L := by
  obtain ⟨S, T, h1, h2, h3, h4, h5⟩ := h
  exact ⟨S, h1, fun i a => h4 i (.inl a), h5⟩
end
theorem do_qd (w0 w : World) (p q p2 q2 : Nat) (L L2 : List Wr) (h : Qd w0 w p q p2 q2 L L2) (kd : Nat) (k a : Int) (t : ByteArray) (ht : t.size ≤ 100000) (ha : a ≤ 9223372036854775807) :
    Calls Tryd.prog 19 #[.agg #[.int .u8 (kd : Int), .int .i64 k, .int .i64 a, .string t], .pointer (some ⟨p, 0, none⟩), .pointer (some ⟨q, 0, none⟩)] w fun e w' => e = .returned (.bool true) ∧ Qd w0 w' p q p2 q2 (stepL L kd k a t) L2 := by
  obtain ⟨S, T, h1, h2, h3, h4, h5⟩ := h
  refine (do_any w p q L S h1 kd k a t ht ha).mono ?_
  rintro e w' ⟨rfl, S', g1, g2, g3⟩
  refine ⟨rfl, S', T, g1, h2.fr g2 h3, fun i x y => ?_, fun i x => ?_, h5.trans (g2.below h5.size (fun i x => h4 i (.inl x)))⟩
  · rcases g3 i x with x | x
    · exact h3 i x y
    · have := h2.up i y; omega
  · rcases x with x | x
    · rcases g3 i x with x | x
      · exact h4 i (.inl x)
      · exact Nat.le_trans h5.size x
    · exact h4 i (.inr x)
theorem like_qd (w0 w : World) (p q p2 q2 : Nat) (L L2 : List Wr) (h : Qd w0 w p q p2 q2 L L2) (kd : Nat) (k a : Int) (t s : ByteArray) (hs : s.size ≤ 100000) :
    Calls Tryd.prog 20 #[.pointer (some ⟨p, 0, none⟩), .pointer (some ⟨q, 0, none⟩), .agg #[.int .u8 (kd : Int), .int .i64 k, .int .i64 a, .string t], .string s] w fun e w' => e = .returned (.bool true) ∧ Qd w0 w' p q p2 q2 L L2 := by
  obtain ⟨S, T, h1, _⟩ := id h
  refine (like_any w p q L S h1 kd k a t s hs).mono ?_
  rintro e w' ⟨rfl, hb⟩
  exact ⟨rfl, h.next hb⟩
/-- Both copies. -/
theorem copies_qd (w0 w w1 w2 : World) (p q p2 q2 : Nat) (L : List Wr) (h : Qs w0 w p q L) (S1 S2 : Nat → Prop) (h1 : Bf w1 p2 L S1) (b1 : ∀ i, S1 i → w.heap.size ≤ i) (hb1 : Below w.heap.size w w1) (h2 : Xf w2 q2 L S2) (b2 : ∀ i, S2 i → w1.heap.size ≤ i) (hb2 : Below w1.heap.size w1 w2) :
    Qd w0 w2 p q p2 q2 L L := by
  obtain ⟨S, g1, g2, g3⟩ := h
  refine ⟨S, fun i => S1 i ∨ S2 i, (g1.next hb1).next hb2, ⟨⟨S1, S2, h1.next hb2, h2, fun i x y => ?_, fun i x => .inl x, fun i x => .inr x⟩, fun i x => ?_⟩, fun i x y => ?_, fun i x => ?_, bt (bt g3 hb1) hb2⟩
  · have := h1.up i x; have := b2 i y; omega
  · rcases x with x | x
    · exact Nat.lt_of_lt_of_le (h1.up i x) hb2.size
    · exact h2.up i x
  · have := g1.up i x
    rcases y with y | y
    · have := b1 i y; omega
    · have := b2 i y; have := hb1.size; omega
  · have := g3.size
    rcases x with x | x | x
    · exact g2 i x
    · have := b1 i x; omega
    · have := b2 i x; have := hb1.size; omega
theorem copy_qs (w0 w : World) (p q : Nat) (L : List Wr) (h : Qs w0 w p q L) :
    Calls Tryd.prog 17 #[.pointer (some ⟨p, 0, none⟩)] w fun e w' => ∃ p2 S2, e = .returned (.pointer (some ⟨p2, 0, none⟩)) ∧ Bf w' p2 L S2 ∧ (∀ i, S2 i → w.heap.size ≤ i) ∧ Below w.heap.size w w' := by
  obtain ⟨S, ⟨⟨S1, S2, h1, _⟩, _⟩, _⟩ := h
  exact copy_f w p L S1 h1
theorem rcopy_qs (w0 w w1 : World) (p q : Nat) (L : List Wr) (h : Qs w0 w p q L) (hb : Below w.heap.size w w1) :
    Calls Tryd.prog 18 #[.pointer (some ⟨q, 0, none⟩)] w1 fun e w' => ∃ q2 S2, e = .returned (.pointer (some ⟨q2, 0, none⟩)) ∧ Xf w' q2 L S2 ∧ (∀ i, S2 i → w1.heap.size ≤ i) ∧ Below w1.heap.size w1 w' := by
  obtain ⟨S, h0, _⟩ := h
  obtain ⟨⟨S1, S2, h1, h2, _⟩, _⟩ := h0.next hb
  exact rcopy_any w1 q L S2 h2 h1.ok
def PlJ (w : World) (p q n : Nat) (i : Value) (W : World) : Prop := ∃ (j : Nat) (L : List Wr), j ≤ n ∧ i = .int .i64 j ∧ Qs w W p q L
set_option maxHeartbeats 4000000 in
set_option maxRecDepth 20000 in
theorem plays_law (w : World) (A : Option Addr) (n cap : Nat) (l : List So) (hl : OpsAt w A n l) (s : ByteArray) :
    Calls Tryd.prog 6 #[.slice A n cap, .string s] w fun e w' => e = .returned (.bool true) ∧ Below w.heap.size w w' := by
  have HO := Lib.hid hl
  have HG := Lib.hid (longs_any w A n cap l hl)
  clear hl
  go_enter Tryd.func6, Tryd.ntmps6
  go_wp2_with fail
  refine HG.out.mono ?_
  rintro e w1 ⟨b, rfl, rfl, hb⟩
  have HSM := Lib.hid hb
  clear hb HG
  cases b with
  | true =>
    go_wp2_with fail
    refine (awake_any _).mono ?_
    rintro e w2 ⟨rfl, hb⟩
    go_wp2_with fail
    all_goals refine bodyPost_ret (by simp [results, Tryd.results6, go_sem]; rfl) rfl ?_
    all_goals exact ⟨rfl, hb⟩
  | false =>
    obtain ⟨hn, hts⟩ := HSM.out rfl
    have HTS := Lib.hid hts
    clear HSM hts
    by_cases h2 : 40000 < s.size
    · have g2 : decide ((s.size : Int) > 40000) = true := by simp; omega
      go_wp2_with fail
      refine (awake_any _).mono ?_
      rintro e w2 ⟨rfl, hb⟩
      go_wp2_with fail
      all_goals refine bodyPost_ret (by simp [results, Tryd.results6, go_sem]; rfl) rfl ?_
      all_goals exact ⟨rfl, hb⟩
    have g2 : decide ((s.size : Int) > 40000) = false := by simp; omega
    have hs : s.size ≤ 100000 := by omega
    go_wp2_with fail
    refine (new_f w1).mono ?_
    rintro e w3 ⟨rfl, ⟨S, s1, s2⟩, hb⟩
    obtain ⟨p, hp⟩ : ∃ p, p = w1.heap.size + 1 := ⟨_, rfl⟩
    rw [← hp] at s1 ⊢
    have hal : Below w3.heap.size w3 (w3.alloc (.cells #[.slice none 0 0] 44)) := bA (Below.refl _ _) _
    have HQ : Hid (Qs w1 (w3.alloc (.cells #[.slice none 0 0] 44)) p w3.heap.size []) := Lib.hid (by
      have hx : Xf (w3.alloc (.cells #[.slice none 0 0] 44)) w3.heap.size [] (fun i => i = w3.heap.size) :=
        Xf.mk_row (RowAt.new w3 44 [.slice none 0 0]) (ox_nil _) rfl (fun k e => by cases e) (fun i e => by rw [e]; simp)
      refine ⟨fun i => S i ∨ i = w3.heap.size, ⟨⟨S, _, s1.next hal, hx, fun i x y => ?_, fun i x => .inl x, fun i x => .inr x⟩, fun i x => ?_⟩, fun i x => ?_, bA hb _⟩
      · have := s1.up i x; omega
      · rcases x with x | x
        · exact Nat.lt_of_lt_of_le (s1.up i x) hal.size
        · rw [x]; simp
      · rcases x with x | x
        · exact s2 i x
        · rw [x]; exact hb.size)
    clear s1 s2 hb hal hp
    go_wp2_with fail
    obtain ⟨q, hq⟩ : ∃ q, q = w3.heap.size := ⟨_, rfl⟩
    rw [← hq] at HQ ⊢
    clear hq
    generalize w3.alloc (.cells #[.slice none 0 0] 44) = w4 at *
    go_loopw [7] (fun i wr => PlJ w1 p q n i wr) (fun i _ => n - (intOf i).toNat)
    case atStart => exact ⟨0, [], by omega, rfl, HQ.out⟩
    case round =>
      obtain ⟨j, L, hj, rfl, hqs⟩ := hrel
      clear HQ
      have HQ := Lib.hid hqs
      clear hqs
      by_cases hlt : j < n
      · obtain ⟨b1, o1, rfl, l1, _⟩ := HO.out.get j hlt
        obtain ⟨⟨kd, k, a, t⟩, hso⟩ : ∃ so, l[j]? = some so := ⟨l[j]'(by rw [HO.out.1]; exact hlt), List.getElem?_eq_getElem _⟩
        have HC : Hid (∀ W, Below w1.heap.size w1 W → W.cell? ⟨b1, o1 + j * 4, none⟩ = some (.int .u8 (kd : Int)) ∧ W.cell? ⟨b1, o1 + j * 4 + 1, none⟩ = some (.int .i64 k) ∧ W.cell? ⟨b1, o1 + j * 4 + 2, none⟩ = some (.int .i64 a) ∧ W.cell? ⟨b1, o1 + j * 4 + 3, none⟩ = some (.string t)) := Lib.hid (fun W hW => by
          obtain ⟨b2, o2, e, _, hat⟩ := (HO.out.next hW).get j hlt
          cases e
          exact hat j _ hso)
        have hok := HO.out.2.1 _ (List.mem_of_getElem? hso)
        have hts := HTS.out _ (List.mem_of_getElem? hso)
        simp only at hts
        have ha : a ≤ 9223372036854775807 := hok.2.2.2
        have ht : t.size ≤ 100000 := by omega
        have hlt' : (j : Int) < (n : Int) := by omega
        have j0 : (0 : Int) ≤ (j : Int) := by omega
        clear hso hok hts
        go_wp2_with fail
        refine (copy_qs w1 wr p q L HQ.out).mono ?_
        rintro e w5 ⟨p2, S2, rfl, c1, c2, hb5⟩
        have HC1 := Lib.hid c1
        have HC2 := Lib.hid c2
        have HB5 := Lib.hid hb5
        clear c1 c2 hb5
        go_wp2_with fail
        refine (rcopy_qs w1 wr w5 p q L HQ.out HB5.out).mono ?_
        rintro e w6 ⟨q2, S3, rfl, c3, c4, hb6⟩
        have HD := Lib.hid (copies_qd w1 wr w5 w6 p q p2 q2 L HQ.out S2 S3 HC1.out HC2.out HB5.out c3 c4 hb6)
        clear c3 c4 hb6 HC1 HC2 HB5 HQ
        obtain ⟨d0, d1, d2, d3⟩ := HC.out _ HD.out.below
        go_wp2_with fail
        refine (do_qd w1 w6 p q p2 q2 L L HD.out kd k a t ht ha).mono ?_
        rintro e w7 ⟨rfl, hd⟩
        have HD2 := Lib.hid hd
        clear hd HD d0 d1 d2 d3
        obtain ⟨d0, d1, d2, d3⟩ := HC.out _ HD2.out.below
        generalize stepL L kd k a t = L' at *
        go_wp2_with fail
        refine (like_qd w1 w7 p q p2 q2 _ _ HD2.out kd k a t s hs).mono ?_
        rintro e w8 ⟨rfl, hd⟩
        have HD3 := Lib.hid hd.symm
        clear hd HD2 d0 d1 d2 d3
        obtain ⟨d0, d1, d2, d3⟩ := HC.out _ HD3.out.below
        go_wp2_with fail
        refine (like_qd w1 w8 p2 q2 p q _ _ HD3.out kd k a t s hs).mono ?_
        rintro e w9 ⟨rfl, hd⟩
        have HD4 := Lib.hid hd
        clear hd HD3 d0 d1 d2 d3
        obtain ⟨d0, d1, d2, d3⟩ := HC.out _ HD4.out.below
        go_wp2_with fail
        refine (do_qd w1 w9 p2 q2 p q _ _ HD4.out kd k a t ht ha).mono ?_
        rintro e w10 ⟨rfl, hd⟩
        have HD5 := Lib.hid hd
        clear hd HD4 d0 d1 d2 d3
        obtain ⟨d0, d1, d2, d3⟩ := HC.out _ HD5.out.below
        go_wp2_with fail
        refine (like_qd w1 w10 p2 q2 p q _ _ HD5.out kd k a t s hs).mono ?_
        rintro e w11 ⟨rfl, hd⟩
        have HD6 := Lib.hid hd.symm
        clear hd HD5 d0 d1 d2 d3
        go_wp2_with fail
        go_roundw
        case rel => exact ⟨j + 1, L', by omega, by go_num, HD6.out.one⟩
        case measure => simp [intOf]; omega
      · obtain rfl : j = n := by omega
        go_wp2_with fail
        refine (awake_any _).mono ?_
        rintro e w5 ⟨rfl, hb⟩
        go_wp2_with fail
        all_goals refine bodyPost_ret (by simp [results, Tryd.results6, go_sem]; rfl) rfl ?_
        all_goals exact ⟨rfl, bt HQ.out.below hb⟩
end Go.Proofs.YtkcebbidmlnmmaaDoor
