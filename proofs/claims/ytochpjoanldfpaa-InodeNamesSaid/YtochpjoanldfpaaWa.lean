/- The small functions: ranges, numbers' places, 4 bytes and back. -/
import Derived.Test.YtochpjoanldfpaaBa
import Derived.StillTailTactics
import Derived.BigRegion
namespace Go.Proofs.Ytochpjoanldfpaa
open Go.RowKit

def rng (lo hi n : Int) : Bool := decide (lo ≤ n) && decide (n ≤ hi)

theorem within_any (n lo hi : Int) (w : World) : Calls Try.prog 32 #[.int .i64 n, .int .i64 lo, .int .i64 hi] w fun e w' => e = .returned (.bool (rng lo hi n)) ∧ w = w' := by
  go_enter Try.func32, Try.ntmps32
  go_wp2
  all_goals go_ret
  all_goals (refine ⟨?_, rfl⟩)
  all_goals (congr 2; simp [rng]; try omega)
theorem within8_any (n lo hi : Int) (w : World) : Calls Try.prog 34 #[.int .u8 n, .int .u8 lo, .int .u8 hi] w fun e w' => e = .returned (.bool (rng lo hi n)) ∧ w = w' := by
  go_enter Try.func34, Try.ntmps34
  go_wp2
  all_goals go_ret
  all_goals (refine ⟨?_, rfl⟩)
  all_goals (congr 2; simp [rng]; try omega)
theorem mayTime_any (n : Int) (w : World) : Calls Try.prog 31 #[.int .i64 n] w fun e w' => e = .returned (.bool (rng 0 2147483647 n)) ∧ w = w' := by
  go_enter Try.func31, Try.ntmps31
  go_wp2_with (go_at_call 32; refine (within_any _ _ _ _).mono ?_; rintro e w' ⟨rfl, rfl⟩)
  go_ret
  exact ⟨rfl, rfl⟩
theorem count_any (n : Int) (w : World) : Calls Try.prog 33 #[.int .i64 n] w fun e w' => e = .returned (.bool (rng 0 2147483647 n)) ∧ w = w' := by
  go_enter Try.func33, Try.ntmps33
  go_wp2
  all_goals go_ret
  all_goals (refine ⟨?_, rfl⟩)
  all_goals (congr 2; simp [rng]; try omega)
set_option maxHeartbeats 2000000 in
theorem numbers_any (b : Nat) (w : World) : Calls Try.prog 35 #[.pointer (some ⟨b, 0, none⟩)] w fun e w' => e = .returned (.agg #[.pointer (some ⟨b, 1, none⟩), .pointer (some ⟨b, 2, none⟩), .pointer (some ⟨b, 3, none⟩), .pointer (some ⟨b, 4, none⟩), .pointer (some ⟨b, 5, none⟩), .pointer (some ⟨b, 6, none⟩), .pointer (some ⟨b, 7, none⟩)]) ∧ Below w.heap.size w w' := by
  go_enter Try.func35, Try.ntmps35
  go_wp2
  go_still_tail 22, (by kernel_rfl)
  change wpList _ _ _ _ _ (w.alloc _).drew
  go_wp2
  refine bodyPost_ret (by simp [results, Try.results35, go_sem]; rfl) rfl ?_
  exact ⟨rfl, ((Below.refl _ _).alloc (Nat.le_refl _) _).drew⟩
end Go.Proofs.Ytochpjoanldfpaa
