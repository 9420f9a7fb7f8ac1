/- The small functions: isTree, isBlock, has, with, without. -/
import Derived.Test.YtaokogeblpjabaaMp
namespace Go.Proofs.Ytaokogeblpjabaa
open Go.RowKit
theorem isTree_any (w : World) (a : Int) : Calls Try.prog 24 #[.int .i64 a] w fun e w' => e = .returned (.bool (decide (0 ≤ a ∧ a ≤ 6))) ∧ w' = w := by
  by_cases h1 : 0 ≤ a
  · have g1 : decide ((0 : Int) ≤ a) = true := by simpa using h1
    have g1' : decide (a ≥ (0 : Int)) = true := by simpa using h1
    by_cases h2 : a ≤ 6
    · rw [decide_eq_true ⟨h1, h2⟩]
      have g2 : decide (a ≤ (6 : Int)) = true := by simpa using h2
      go_enter Try.func24, Try.ntmps24
      go_wp2
      all_goals refine bodyPost_ret (by simp [results, Try.results24, go_sem]; rfl) rfl ?_
      all_goals exact ⟨rfl, rfl⟩
    · rw [decide_eq_false (fun h => h2 h.2)]
      have g2 : decide (a ≤ (6 : Int)) = false := by simpa using h2
      go_enter Try.func24, Try.ntmps24
      go_wp2
      all_goals refine bodyPost_ret (by simp [results, Try.results24, go_sem]; rfl) rfl ?_
      all_goals exact ⟨rfl, rfl⟩
  · rw [decide_eq_false (fun h => h1 h.1)]
    have g1 : decide ((0 : Int) ≤ a) = false := by simpa using h1
    have g1' : decide (a ≥ (0 : Int)) = false := by simpa using h1
    go_enter Try.func24, Try.ntmps24
    go_wp2
    all_goals refine bodyPost_ret (by simp [results, Try.results24, go_sem]; rfl) rfl ?_
    all_goals exact ⟨rfl, rfl⟩
theorem isBlock_any (w : World) (a : Int) : Calls Try.prog 25 #[.int .i64 a] w fun e w' => e = .returned (.bool (decide (2 ≤ a ∧ a < 8192))) ∧ w' = w := by
  by_cases h1 : 2 ≤ a
  · have g1 : decide ((2 : Int) ≤ a) = true := by simpa using h1
    have g1' : decide (a ≥ (2 : Int)) = true := by simpa using h1
    by_cases h2 : a < 8192
    · rw [decide_eq_true ⟨h1, h2⟩]
      have g2 : decide (a < (8192 : Int)) = true := by simpa using h2
      go_enter Try.func25, Try.ntmps25
      go_wp2
      all_goals refine bodyPost_ret (by simp [results, Try.results25, go_sem]; rfl) rfl ?_
      all_goals exact ⟨rfl, rfl⟩
    · rw [decide_eq_false (fun h => h2 h.2)]
      have g2 : decide (a < (8192 : Int)) = false := by simpa using h2
      go_enter Try.func25, Try.ntmps25
      go_wp2
      all_goals refine bodyPost_ret (by simp [results, Try.results25, go_sem]; rfl) rfl ?_
      all_goals exact ⟨rfl, rfl⟩
  · rw [decide_eq_false (fun h => h1 h.1)]
    have g1 : decide ((2 : Int) ≤ a) = false := by simpa using h1
    have g1' : decide (a ≥ (2 : Int)) = false := by simpa using h1
    go_enter Try.func25, Try.ntmps25
    go_wp2
    all_goals refine bodyPost_ret (by simp [results, Try.results25, go_sem]; rfl) rfl ?_
    all_goals exact ⟨rfl, rfl⟩
def onM (m a : Nat) : Nat := m ||| 2 ^ a
def offM (m a : Nat) : Nat := if m.testBit a then m - 2 ^ a else m
theorem fin_all {P : Nat → Nat → Prop} (h : ∀ m : Fin 128, ∀ a : Fin 7, P m.val a.val) (m a : Nat) (hm : m < 128) (ha : a < 7) : P m a := h ⟨m, hm⟩ ⟨a, ha⟩
theorem bits_on : ∀ m : Fin 128, ∀ a : Fin 7, bits BinOp.or IntKind.u8 (m.val : Int) (2 ^ a.val % 256) = (onM m.val a.val : Int) := by decide +kernel
theorem bits_off : ∀ m : Fin 128, ∀ a : Fin 7, bits BinOp.andNot IntKind.u8 (m.val : Int) (2 ^ a.val % 256) = (offM m.val a.val : Int) := by decide +kernel
theorem bits_has : ∀ m : Fin 128, ∀ a : Fin 7, (bits BinOp.and IntKind.u8 ((m.val : Int) / 2 ^ a.val) 1 == 1) = m.val.testBit a.val := by decide +kernel
theorem on_has0 : ∀ m : Fin 128, ∀ a c : Fin 7, (onM m.val a.val).testBit c.val = (decide (c = a) || m.val.testBit c.val) := by decide +kernel
theorem off_has0 : ∀ m : Fin 128, ∀ a c : Fin 7, (offM m.val a.val).testBit c.val = (!decide (c = a) && m.val.testBit c.val) := by decide +kernel
theorem on_lt0 : ∀ m : Fin 128, ∀ a : Fin 7, onM m.val a.val < 128 ∧ onM m.val a.val ≠ 0 := by decide +kernel
theorem off_lt0 : ∀ m : Fin 128, ∀ a : Fin 7, offM m.val a.val < 128 := by decide +kernel
theorem ne_zero0 : ∀ m : Fin 128, (m.val ≠ 0) ↔ ∃ c : Fin 7, m.val.testBit c.val = true := by decide +kernel
theorem on_has {m a c : Nat} (hm : m < 128) (ha : a < 7) (hc : c < 7) : (onM m a).testBit c = (decide (c = a) || m.testBit c) := by
  have := on_has0 ⟨m, hm⟩ ⟨a, ha⟩ ⟨c, hc⟩
  simpa only [Fin.mk.injEq] using this
theorem off_has {m a c : Nat} (hm : m < 128) (ha : a < 7) (hc : c < 7) : (offM m a).testBit c = (!decide (c = a) && m.testBit c) := by
  have := off_has0 ⟨m, hm⟩ ⟨a, ha⟩ ⟨c, hc⟩
  simpa only [Fin.mk.injEq] using this
theorem on_lt {m a : Nat} (hm : m < 128) (ha : a < 7) : onM m a < 128 := (on_lt0 ⟨m, hm⟩ ⟨a, ha⟩).1
theorem on_ne {m a : Nat} (hm : m < 128) (ha : a < 7) : onM m a ≠ 0 := (on_lt0 ⟨m, hm⟩ ⟨a, ha⟩).2
theorem off_lt {m a : Nat} (hm : m < 128) (ha : a < 7) : offM m a < 128 := off_lt0 ⟨m, hm⟩ ⟨a, ha⟩
theorem ne_zero {m : Nat} (hm : m < 128) : m ≠ 0 ↔ ∃ c, c < 7 ∧ m.testBit c = true := by
  rw [ne_zero0 ⟨m, hm⟩]
  exact ⟨fun ⟨c, h⟩ => ⟨c.val, c.isLt, h⟩, fun ⟨c, h1, h2⟩ => ⟨⟨c, h1⟩, h2⟩⟩
theorem with_any (w : World) (m a : Nat) (hm : m < 128) (ha : a < 7) : Calls Try.prog 28 #[.int .u8 m, .int .i64 a] w fun e w' => e = .returned (.int .u8 (onM m a)) ∧ w' = w := by
  go_enter Try.func28, Try.ntmps28
  go_wp2
  all_goals refine bodyPost_ret (by simp [results, Try.results28, go_sem]; rfl) rfl ?_
  rw [bits_on ⟨m, hm⟩ ⟨a, ha⟩]
  exact ⟨rfl, rfl⟩
theorem without_any (w : World) (m a : Nat) (hm : m < 128) (ha : a < 7) : Calls Try.prog 29 #[.int .u8 m, .int .i64 a] w fun e w' => e = .returned (.int .u8 (offM m a)) ∧ w' = w := by
  go_enter Try.func29, Try.ntmps29
  go_wp2
  all_goals refine bodyPost_ret (by simp [results, Try.results29, go_sem]; rfl) rfl ?_
  rw [bits_off ⟨m, hm⟩ ⟨a, ha⟩]
  exact ⟨rfl, rfl⟩
theorem has_any (w : World) (m a : Nat) (hm : m < 128) (ha : a < 7) : Calls Try.prog 26 #[.int .u8 m, .int .i64 a] w fun e w' => e = .returned (.bool (m.testBit a)) ∧ w' = w := by
  go_enter Try.func26, Try.ntmps26
  go_wp2
  all_goals refine bodyPost_ret (by simp [results, Try.results26, go_sem]; rfl) rfl ?_
  rw [bits_has ⟨m, hm⟩ ⟨a, ha⟩]
  exact ⟨rfl, rfl⟩
end Go.Proofs.Ytaokogeblpjabaa
