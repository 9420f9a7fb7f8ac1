/- May and its twin; what is new, linked, sized, moded; handles. -/
import Derived.Test.YtochpjoanldfpaaWa
import Derived.Test.YtochpjoanldfpaaWb
namespace Go.Proofs.Ytochpjoanldfpaa
open Go.RowKit
attribute [local go_sem] idx7_0 idx7_1 idx7_2 idx7_3 idx7_4 idx7_5 idx7_6 idx2_0 idx2_1

structure Att where
  k : Int
  m : Int
  l : Int
  s : Int
  t : Int
  c : Int
  i : Int
  g : Int
deriving DecidableEq
def Att.zero : Att := ⟨0, 0, 0, 0, 0, 0, 0, 0⟩
def Att.cells (a : Att) : List Value := [.int .u8 a.k, .int .i64 a.m, .int .i64 a.l, .int .i64 a.s, .int .i64 a.t, .int .i64 a.c, .int .i64 a.i, .int .i64 a.g]
def mayF (a : Att) : Bool := decide (1 ≤ a.k ∧ a.k ≤ 3 ∧ 0 ≤ a.m ∧ a.m ≤ 4095 ∧ 0 ≤ a.l ∧ a.l ≤ 2147483647 ∧ 0 ≤ a.s ∧ a.s ≤ 2147483647 ∧ 0 ≤ a.t ∧ a.t ≤ 2147483647 ∧ 0 ≤ a.c ∧ a.c ≤ 2147483647 ∧ 1 ≤ a.i ∧ a.i < 2147483647 ∧ 0 ≤ a.g ∧ a.g ≤ 2147483647 ∧ (a.k = 1 → a.s ≤ 32768) ∧ (a.k = 3 → a.s ≤ 160))
def RetB (b : Bool) (w : World) (e : Ending) (w' : World) : Prop := e = .returned (.bool b) ∧ Below w.heap.size w w'
theorem retB_mk {b c : Bool} {w w' : World} (h : b = c) (hb : Below w.heap.size w w') : RetB b w (.returned (.bool c)) w' := by
  subst h; exact ⟨rfl, hb⟩
theorem b1 (w : World) (a : Obj) : Below w.heap.size w (w.alloc a) := (Below.refl _ _).alloc (Nat.le_refl _) _
theorem below2 (w : World) (a b : Obj) : Below w.heap.size w ((w.alloc a).alloc b) := ((Below.refl _ _).alloc (Nat.le_refl _) _).alloc (by simp) _

set_option maxHeartbeats 4000000 in
theorem may_any (k m l s t c i g : Int) (w : World) : Calls Try.prog 19 #[.agg #[.int .u8 k, .int .i64 m, .int .i64 l, .int .i64 s, .int .i64 t, .int .i64 c, .int .i64 i, .int .i64 g]] w (RetB (mayF ⟨k, m, l, s, t, c, i, g⟩) w) := by
  go_enter Try.func19, Try.ntmps19
  go_wp2_with (first | (go_at_call 34; refine (within8_any _ _ _ _).mono ?_; rintro e w' ⟨rfl, rfl⟩) | (go_at_call 35; refine (numbers_any _ _).mono ?_; rintro e w1 ⟨rfl, hb⟩; have R := (RowAt.new w 23 (Att.cells ⟨k, m, l, s, t, c, i, g⟩)).next hb))
  all_goals (first | (go_ret; refine retB_mk ?_ (b1 w _); grind [mayF, rng]) | skip)
  have hq := R.cell
  have q0 : w1.cell? ⟨w.heap.size, 0, none⟩ = some (.int .u8 k) := hq 0
  have q1 : w1.cell? ⟨w.heap.size, 1, none⟩ = some (.int .i64 m) := hq 1
  have q2 : w1.cell? ⟨w.heap.size, 2, none⟩ = some (.int .i64 l) := hq 2
  have q3 : w1.cell? ⟨w.heap.size, 3, none⟩ = some (.int .i64 s) := hq 3
  have q4 : w1.cell? ⟨w.heap.size, 4, none⟩ = some (.int .i64 t) := hq 4
  have q5 : w1.cell? ⟨w.heap.size, 5, none⟩ = some (.int .i64 c) := hq 5
  have q6 : w1.cell? ⟨w.heap.size, 6, none⟩ = some (.int .i64 i) := hq 6
  have q7 : w1.cell? ⟨w.heap.size, 7, none⟩ = some (.int .i64 g) := hq 7
  have hb1 : Below w.heap.size w w1 := bt (b1 _ _) hb
  clear hq R hb
  refine wp_loop_rounds 8 ?_
  repeat any_goals (rw [rounds_succ]; go_wp2_with (go_at_call 32; refine (within_any _ _ _ _).mono ?_; rintro e w' ⟨rfl, rfl⟩))
  all_goals (first | (go_ret; refine retB_mk ?_ hb1; grind [mayF, rng]) | skip)
  all_goals trace_state
set_option maxHeartbeats 4000000 in
theorem mayR_any (k m l s t c i g : Int) (w : World) : Calls Try.prog 24 #[.agg #[.int .u8 k, .int .i64 m, .int .i64 l, .int .i64 s, .int .i64 t, .int .i64 c, .int .i64 i, .int .i64 g]] w (RetB (mayF ⟨k, m, l, s, t, c, i, g⟩) w) := by
  go_enter Try.func24, Try.ntmps24
  go_wp2_with (go_at_call 33; refine (count_any _ _).mono ?_; rintro e w' ⟨rfl, rfl⟩)
  all_goals (go_ret; refine retB_mk ?_ (b1 w _); grind [mayF, rng])
end Go.Proofs.Ytochpjoanldfpaa
