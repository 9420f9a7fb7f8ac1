/- awake returns true; closed instances of the contracts. -/
import Derived.Test.YtkdemfahabnbjaaWc
namespace Go.Proofs.Ytkdemfahabnbjaa
open Go.RowKit

theorem part_lit (n all : Int) (r : Int) (w : World) (h : ((JFl.partB n all : Nat) : Int) = r) : Calls Try.prog 13 #[.int .i64 n, .int .i64 all] w fun e w' => e = .returned (.int .u64 r) ∧ Below w.heap.size w w' := by
  subst h; exact (part_any n all w).mono fun e w' ⟨h1, h2⟩ => ⟨h1, h2⟩

theorem plan_awake (w : World) : Calls Try.prog 8 #[.agg #[.int .u8 1, .int .i64 0, .int .i64 0, .int .i64 0, .int .i64 0, .int .i64 6, .int .i64 0, .int .i64 0], .int .i64 7, .int .i64 3, .int .i64 6, .int .i64 9] w fun e w' =>
    e = .returned (.tuple #[.agg #[.int .u8 1, .int .i64 7, .int .i64 0, .int .i64 3, .int .i64 9, .int .i64 9, .int .i64 0, .int .i64 0], .int .i64 0]) ∧ Below w.heap.size w w' :=
  (plan_any 1 0 0 0 0 6 0 0 7 3 6 9 w).mono fun e w' ⟨h1, h2⟩ => ⟨by rw [h1]; rfl, h2⟩

theorem same_lit (k m l s t c i g k2 m2 l2 s2 t2 c2 i2 g2 : Int) (r : Bool) (w : World) (h : sameF ⟨k, m, l, s, t, c, i, g⟩ ⟨k2, m2, l2, s2, t2, c2, i2, g2⟩ = r) :
    Calls Try.prog 10 #[.agg #[.int .u8 k, .int .i64 m, .int .i64 l, .int .i64 s, .int .i64 t, .int .i64 c, .int .i64 i, .int .i64 g], .agg #[.int .u8 k2, .int .i64 m2, .int .i64 l2, .int .i64 s2, .int .i64 t2, .int .i64 c2, .int .i64 i2, .int .i64 g2]] w fun e w' => e = .returned (.bool r) ∧ Below w.heap.size w w' := by
  subst h; exact same_any k m l s t c i g k2 m2 l2 s2 t2 c2 i2 g2 w

theorem less_lit (a b : Int) (r : Bool) (w : World) (h : JFl.lessB a.toNat b.toNat = r) :
    Calls Try.prog 17 #[.int .u64 a, .int .u64 b] w fun e w' => e = .returned (.bool r) ∧ w = w' := by
  subst h; exact less_any a b w

theorem bt {a b c : World} (h : Below a.heap.size a b) (k : Below b.heap.size b c) : Below a.heap.size a c := h.trans (k.mono h.size)
theorem btA {a b c : World} {o : Obj} (h : Below a.heap.size a b) (k : Below (b.alloc o).heap.size (b.alloc o) c) : Below a.heap.size a c := bt (h.alloc h.size o) k

theorem mean_lit (a : Option Addr) (len cap : Nat) (l : List Int) (r : Int) (w : World) (h : IntsAt .i64 w a len l) (hl : len ≤ 1000000) (hr : ((JFl.meanB l : Nat) : Int) = r) :
    Calls Try.prog 15 #[.slice a len cap] w fun e w' => e = .returned (.int .u64 r) ∧ Below w.heap.size w w' := by
  subst hr; exact (mean_any a len cap l w h hl).mono fun e w' ⟨h1, h2⟩ => ⟨h1, h2⟩

theorem ints2 (w : World) (x y : Int) (t : TypeId) : IntsAt .i64 (w.alloc (.cells #[.int .i64 x, .int .i64 y] t)) (some ⟨w.heap.size, 0, none⟩) 2 [x, y] := by
  refine ⟨rfl, .inr ⟨w.heap.size, 0, rfl, by simp, ?_⟩⟩
  intro i hi
  obtain rfl | rfl : i = 0 ∨ i = 1 := by omega
  · simp [go_sem]
  · simp [go_sem]

set_option maxHeartbeats 1000000 in
theorem awake_any (w : World) : Calls Try.prog 12 #[] w fun e w' => e = .returned (.bool true) ∧ Below w.heap.size w w' := by
  go_enter Try.func12, Try.ntmps12
  go_wp2_with fail
  refine (plan_awake _).mono ?_
  rintro e w1 ⟨rfl, hb1⟩
  go_wp2_with fail
  refine (part_lit 1 4 4598175219545276416 _ (by decide +kernel)).mono ?_
  rintro e w2 ⟨rfl, hb2⟩
  go_wp2_with fail
  refine (part_lit 0 0 9221120237041090561 _ (by decide +kernel)).mono ?_
  rintro e w3 ⟨rfl, hb3⟩
  go_wp2_with fail
  refine (part_lit 1 0 9218868437227405312 _ (by decide +kernel)).mono ?_
  rintro e w4 ⟨rfl, hb4⟩
  have hc4 := bt (bt hb2 hb3) hb4
  clear hb2 hb3 hb4
  go_wp2_with fail
  refine (mean_lit _ 2 2 [1, 2] 4609434218613702656 _ (ints2 _ _ _ _) (by omega) (by decide +kernel)).mono ?_
  rintro e w5 ⟨rfl, hb5⟩
  go_wp2_with fail
  refine (part_lit 1 4 4598175219545276416 _ (by decide +kernel)).mono ?_
  rintro e w6 ⟨rfl, hb6⟩
  go_wp2_with fail
  refine (part_lit 1 2 4602678819172646912 _ (by decide +kernel)).mono ?_
  rintro e w7 ⟨rfl, hb7⟩
  have hc7 := bt (bt (btA hc4 hb5) hb6) hb7
  clear hb5 hb6 hb7 hc4
  go_wp2_with fail
  refine (less_lit _ _ true _ (by decide +kernel)).mono ?_
  rintro e w' ⟨rfl, rfl⟩
  have hb8 := btA hb1 hc7
  have q0 : w7.cell? ⟨w1.heap.size, 0, none⟩ = some (.int .u8 1) := by rw [hc7.cell (by simp)]; simp [go_sem]
  have q1 : w7.cell? ⟨w1.heap.size, 1, none⟩ = some (.int .i64 7) := by rw [hc7.cell (by simp)]; simp [go_sem]
  have q2 : w7.cell? ⟨w1.heap.size, 2, none⟩ = some (.int .i64 0) := by rw [hc7.cell (by simp)]; simp [go_sem]
  have q3 : w7.cell? ⟨w1.heap.size, 3, none⟩ = some (.int .i64 3) := by rw [hc7.cell (by simp)]; simp [go_sem]
  have q4 : w7.cell? ⟨w1.heap.size, 4, none⟩ = some (.int .i64 9) := by rw [hc7.cell (by simp)]; simp [go_sem]
  have q5 : w7.cell? ⟨w1.heap.size, 5, none⟩ = some (.int .i64 9) := by rw [hc7.cell (by simp)]; simp [go_sem]
  have q6 : w7.cell? ⟨w1.heap.size, 6, none⟩ = some (.int .i64 0) := by rw [hc7.cell (by simp)]; simp [go_sem]
  have q7 : w7.cell? ⟨w1.heap.size, 7, none⟩ = some (.int .i64 0) := by rw [hc7.cell (by simp)]; simp [go_sem]
  clear hc7 hb1
  go_wp2_with fail
  refine (same_lit 1 7 0 3 9 9 0 0 0 0 0 0 0 0 0 0 false _ (by decide +kernel)).mono ?_
  rintro e w9 ⟨rfl, hb9⟩
  go_wp2_with fail
  go_ret
  exact ⟨rfl, bt hb8 hb9⟩
end Go.Proofs.Ytkdemfahabnbjaa
