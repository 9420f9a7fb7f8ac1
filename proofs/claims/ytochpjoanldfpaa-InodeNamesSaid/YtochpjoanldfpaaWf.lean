/- The bytes of what an object is; keys. -/
import Derived.Test.YtochpjoanldfpaaWe
namespace Go.Proofs.Ytochpjoanldfpaa
open Go.RowKit
attribute [local go_sem] idx7_0 idx7_1 idx7_2 idx7_3 idx7_4 idx7_5 idx7_6 idx2_0 idx2_1
theorem ownsNext {w w' : World} {base : Nat} {e : TypeId} {size : Nat} {v : Value} {n : Nat} {xs : List Value} (h : w.ownsRow base e size v n xs) (hb : Below w.heap.size w w') : w'.ownsRow base e size v n xs := by
  refine ⟨h.1, ?_⟩
  rcases h.2 with h2 | ⟨g, cap, cur, h1, h2, h3, h4⟩
  · exact .inl h2
  · refine .inr ⟨g, cap, cur, h1, h2, ?_, h4⟩
    rw [hb.block g ?_]
    · exact h3
    · by_cases hh : g < w.heap.size
      · exact hh
      · rw [Array.getElem?_eq_none (by omega)] at h3; cases h3
theorem str_owned {w : World} {base : Nat} {v : Value} {n : Nat} {l : List UInt8} (h : w.ownsRow base 5 1 v n (l.map B8)) : (convert 58 9 v).run Try.prog w = .ok (.string ⟨l.toArray⟩) w := by
  obtain ⟨a, cap, rfl, hS⟩ := SliceAt.owned h
  exact run_string_of_slice _ 58 5 9 Try.underlying58 Try.underlying5 Try.underlying9 a n cap l hS
def encL (a : Att) : List UInt8 := by8 a.k :: (wordL a.m ++ wordL a.l ++ wordL a.s ++ wordL a.t ++ wordL a.c ++ wordL a.i ++ wordL a.g)
def RetS (l : List UInt8) (x : Int) (w : World) (e : Ending) (w' : World) : Prop := e = .returned (.tuple #[.string ⟨l.toArray⟩, .int .i64 x]) ∧ Below w.heap.size w w'

theorem key_any (n : Int) (w : World) : Calls Try.prog 25 #[.int .i64 n] w fun e w' => e = .returned (.string ⟨(105 :: wordL n).toArray⟩) ∧ Below w.heap.size w w' := by
  go_enter Try.func25, Try.ntmps25
  go_wp2_with fail
  have ho : (w.alloc (.cells #[.int .u8 105] 5)).ownsRow w.heap.size 5 1 (.slice (some ⟨w.heap.size, 0, none⟩) 1 1) 1 (([105] : List UInt8).map B8) := World.ownsRow_lit w #[.int .u8 105] 1 (Nat.le_refl _) (by unfold maxLen; omega) rfl
  refine (four_any _ 1 [105] n w.heap.size _ (by omega) (by simp) ho).mono ?_
  rintro e w1 ⟨v, rfl, ho1, hb⟩
  have hc := str_owned ho1
  have hw := (b1 w (.cells #[.int .u8 105] 5)).trans hb
  clear ho ho1 hb
  go_wp2
  go_ret
  exact ⟨rfl, hw⟩
theorem keyR_any (n : Int) (w : World) : Calls Try.prog 26 #[.int .i64 n] w fun e w' => e = .returned (.string ⟨(105 :: wordL n).toArray⟩) ∧ Below w.heap.size w w' := by
  go_enter Try.func26, Try.ntmps26
  go_wp2_with (go_at_call 37; refine (word_any _ _).mono ?_; rintro e w1 ⟨rfl, hb⟩)
  go_ret
  refine ⟨?_, hb⟩
  rfl

set_option maxHeartbeats 4000000 in
theorem encode_no (k m l s t c i g : Int) (w : World) (h : mayF ⟨k, m, l, s, t, c, i, g⟩ = false) : Calls Try.prog 20 #[.agg #[.int .u8 k, .int .i64 m, .int .i64 l, .int .i64 s, .int .i64 t, .int .i64 c, .int .i64 i, .int .i64 g]] w (RetS [] 4 w) := by
  go_enter Try.func20, Try.ntmps20
  go_wp2_with fail
  refine (may_any _ _ _ _ _ _ _ _ _).mono ?_
  rintro e w1 ⟨rfl, hb⟩
  rw [h]
  have hw := bt (b1 _ _) hb
  clear hb
  go_wp2
  refine bodyPost_ret (by simp [results, Try.results20, go_sem]; rfl) rfl ?_
  exact ⟨rfl, hw⟩
set_option maxHeartbeats 4000000 in
theorem encode_yes (k m l s t c i g : Int) (w : World) (h : mayF ⟨k, m, l, s, t, c, i, g⟩ = true) : Calls Try.prog 20 #[.agg #[.int .u8 k, .int .i64 m, .int .i64 l, .int .i64 s, .int .i64 t, .int .i64 c, .int .i64 i, .int .i64 g]] w (RetS (encL ⟨k, m, l, s, t, c, i, g⟩) 0 w) := by
  have hk : B8 (by8 k) = .int .u8 k := by
    rw [by8_val]; congr 1
    have : 1 ≤ k ∧ k ≤ 3 := by simp [mayF] at h; omega
    omega
  have HK := Lib.hid hk
  have HM := Lib.hid h
  clear hk h
  go_enter Try.func20, Try.ntmps20
  go_wp2_with fail
  refine (may_any _ _ _ _ _ _ _ _ _).mono ?_
  rintro e w1 ⟨rfl, hb⟩
  rw [HM.out]
  have R1 := (RowAt.new w 23 (Att.cells ⟨k, m, l, s, t, c, i, g⟩)).next hb
  have hw1 := bt (b1 w _) hb
  have hz1 : w.heap.size < w1.heap.size := by have := hb.size; simp at this; omega
  clear hb
  have q0 : w1.cell? ⟨w.heap.size, 0, none⟩ = some (.int .u8 k) := R1.cell 0
  go_wp2_with fail
  refine (numbers_any _ _).mono ?_
  rintro e w2 ⟨rfl, hb⟩
  clear q0
  have R2 := (R1.alloc _).next hb
  have ho0 : (w1.alloc (.cells #[.int .u8 k] 5)).ownsRow w1.heap.size 5 1 (.slice (some ⟨w1.heap.size, 0, none⟩) 1 1) 1 (([by8 k] : List UInt8).map B8) := by
    have := World.ownsRow_lit (e := 5) (size := 1) w1 #[.int .u8 k] 1 (Nat.le_refl _) (by unfold maxLen; omega) rfl
    simpa [HK.out] using this
  have ho2 := ownsNext ho0 hb
  have hw2 := btA hw1 hb
  have hz2 : w1.heap.size ≤ w2.heap.size := by have := hb.size; simp at this; omega
  clear hb ho0 R1
  obtain ⟨B, hB⟩ : ∃ B, B = w1.heap.size := ⟨_, rfl⟩
  rw [← hB] at ho2 hz1 hz2 ⊢
  clear hB hw1
  obtain ⟨v2, hv2⟩ : ∃ v, v = Value.slice (some ⟨B, 0, none⟩) 1 1 := ⟨_, rfl⟩
  rw [← hv2] at ho2 ⊢
  clear hv2
  go_wp2_with fail
  refine wp_loop_rounds 8 ?_
  have q : w2.cell? ⟨w.heap.size, 1, none⟩ = some (.int .i64 m) := R2.cell 1
  rw [rounds_succ]
  go_wp2_with fail
  refine (four_any _ 1 ([by8 k]) m B _ (by omega) hz2 ho2).mono ?_
  rintro e w3 ⟨v3, rfl, ho3, hb⟩
  have R3 := R2.below hb hz1
  have hw3 := hw2.trans (hb.mono (Nat.le_of_lt hz1))
  have hz3 := Nat.le_trans hz2 hb.size
  clear hb q ho2 R2 hw2 hz2
  go_wp2_with fail
  have q : w3.cell? ⟨w.heap.size, 2, none⟩ = some (.int .i64 l) := R3.cell 2
  rw [rounds_succ]
  go_wp2_with fail
  refine (four_any _ 5 ([by8 k] ++ wordL m) l B _ (by omega) hz3 ho3).mono ?_
  rintro e w4 ⟨v4, rfl, ho4, hb⟩
  have R4 := R3.below hb hz1
  have hw4 := hw3.trans (hb.mono (Nat.le_of_lt hz1))
  have hz4 := Nat.le_trans hz3 hb.size
  clear hb q ho3 R3 hw3 hz3
  go_wp2_with fail
  have q : w4.cell? ⟨w.heap.size, 3, none⟩ = some (.int .i64 s) := R4.cell 3
  rw [rounds_succ]
  go_wp2_with fail
  refine (four_any _ 9 ([by8 k] ++ wordL m ++ wordL l) s B _ (by omega) hz4 ho4).mono ?_
  rintro e w5 ⟨v5, rfl, ho5, hb⟩
  have R5 := R4.below hb hz1
  have hw5 := hw4.trans (hb.mono (Nat.le_of_lt hz1))
  have hz5 := Nat.le_trans hz4 hb.size
  clear hb q ho4 R4 hw4 hz4
  go_wp2_with fail
  have q : w5.cell? ⟨w.heap.size, 4, none⟩ = some (.int .i64 t) := R5.cell 4
  rw [rounds_succ]
  go_wp2_with fail
  refine (four_any _ 13 ([by8 k] ++ wordL m ++ wordL l ++ wordL s) t B _ (by omega) hz5 ho5).mono ?_
  rintro e w6 ⟨v6, rfl, ho6, hb⟩
  have R6 := R5.below hb hz1
  have hw6 := hw5.trans (hb.mono (Nat.le_of_lt hz1))
  have hz6 := Nat.le_trans hz5 hb.size
  clear hb q ho5 R5 hw5 hz5
  go_wp2_with fail
  have q : w6.cell? ⟨w.heap.size, 5, none⟩ = some (.int .i64 c) := R6.cell 5
  rw [rounds_succ]
  go_wp2_with fail
  refine (four_any _ 17 ([by8 k] ++ wordL m ++ wordL l ++ wordL s ++ wordL t) c B _ (by omega) hz6 ho6).mono ?_
  rintro e w7 ⟨v7, rfl, ho7, hb⟩
  have R7 := R6.below hb hz1
  have hw7 := hw6.trans (hb.mono (Nat.le_of_lt hz1))
  have hz7 := Nat.le_trans hz6 hb.size
  clear hb q ho6 R6 hw6 hz6
  go_wp2_with fail
  have q : w7.cell? ⟨w.heap.size, 6, none⟩ = some (.int .i64 i) := R7.cell 6
  rw [rounds_succ]
  go_wp2_with fail
  refine (four_any _ 21 ([by8 k] ++ wordL m ++ wordL l ++ wordL s ++ wordL t ++ wordL c) i B _ (by omega) hz7 ho7).mono ?_
  rintro e w8 ⟨v8, rfl, ho8, hb⟩
  have R8 := R7.below hb hz1
  have hw8 := hw7.trans (hb.mono (Nat.le_of_lt hz1))
  have hz8 := Nat.le_trans hz7 hb.size
  clear hb q ho7 R7 hw7 hz7
  go_wp2_with fail
  have q : w8.cell? ⟨w.heap.size, 7, none⟩ = some (.int .i64 g) := R8.cell 7
  rw [rounds_succ]
  go_wp2_with fail
  refine (four_any _ 25 ([by8 k] ++ wordL m ++ wordL l ++ wordL s ++ wordL t ++ wordL c ++ wordL i) g B _ (by omega) hz8 ho8).mono ?_
  rintro e w9 ⟨v9, rfl, ho9, hb⟩
  have R9 := R8.below hb hz1
  have hw9 := hw8.trans (hb.mono (Nat.le_of_lt hz1))
  have hz9 := Nat.le_trans hz8 hb.size
  clear hb q ho8 R8 hw8 hz8
  go_wp2_with fail
  have hc := str_owned ho9
  rw [rounds_succ]
  go_wp2
  refine bodyPost_ret (by simp [results, Try.results20, go_sem]; rfl) rfl ?_
  refine ⟨?_, hw9⟩
  simp [encL]
end Go.Proofs.Ytochpjoanldfpaa
