/- What is new, linked, sized, moded; handles. -/
import Derived.Test.YtochpjoanldfpaaWc
namespace Go.Proofs.Ytochpjoanldfpaa
open Go.RowKit

def newF (k m i g n : Int) : Att × Int := if mayF ⟨k, m, if k = 2 then 2 else 1, 0, n, n, i, g⟩ then (⟨k, m, if k = 2 then 2 else 1, 0, n, n, i, g⟩, 0) else (Att.zero, 1)
def linkedF (a : Att) (b n : Int) : Att × Int :=
  if (b ≠ 1 ∧ b ≠ -1) ∨ n < 0 ∨ 2147483647 < n then (Att.zero, 1) else if a.l + b < 0 ∨ 2147483647 < a.l + b then (Att.zero, 50) else ({ a with l := a.l + b, c := n }, 0)
def sizedF (a : Att) (z n : Int) : Att × Int :=
  if a.k ≠ 1 then (Att.zero, 55) else if z < 0 ∨ n < 0 ∨ 2147483647 < n then (Att.zero, 1) else if 32768 < z then (Att.zero, 40) else ({ a with s := z, t := n, c := n }, 0)
def modedF (a : Att) (z n : Int) : Att × Int :=
  if z < 0 ∨ 4095 < z ∨ n < 0 ∨ 2147483647 < n then (Att.zero, 1) else ({ a with m := z, c := n }, 0)

def RetA (r : Att × Int) (w : World) (e : Ending) (w' : World) : Prop := e = .returned (.tuple #[.agg r.1.cells.toArray, .int .i64 r.2]) ∧ Below w.heap.size w w'
theorem retA_mk {k m l s t c i g E : Int} {r : Att × Int} {w w' : World} (h : r = (⟨k, m, l, s, t, c, i, g⟩, E)) (hb : Below w.heap.size w w') : RetA r w (.returned (.tuple #[.agg #[.int .u8 k, .int .i64 m, .int .i64 l, .int .i64 s, .int .i64 t, .int .i64 c, .int .i64 i, .int .i64 g], .int .i64 E])) w' := by
  subst h; exact ⟨rfl, hb⟩

set_option maxHeartbeats 4000000 in
theorem sized_any (k m l s t c i g z n : Int) (w : World) : Calls Try.prog 12 #[.agg #[.int .u8 k, .int .i64 m, .int .i64 l, .int .i64 s, .int .i64 t, .int .i64 c, .int .i64 i, .int .i64 g], .int .i64 z, .int .i64 n] w (RetA (sizedF ⟨k, m, l, s, t, c, i, g⟩ z n) w) := by
  go_enter Try.func12, Try.ntmps12
  go_wp2_with (go_at_call 31; refine (mayTime_any _ _).mono ?_; rintro e w1 ⟨rfl, rfl⟩)
  all_goals (refine bodyPost_ret (by simp [results, Try.results12, go_sem]; rfl) rfl ?_)
  all_goals (refine retA_mk ?_ (below2 ..))
  all_goals (grind [sizedF, Att.zero, rng])

set_option maxHeartbeats 4000000 in
theorem sizedR_any (k m l s t c i g z n : Int) (w : World) : Calls Try.prog 13 #[.agg #[.int .u8 k, .int .i64 m, .int .i64 l, .int .i64 s, .int .i64 t, .int .i64 c, .int .i64 i, .int .i64 g], .int .i64 z, .int .i64 n] w (RetA (sizedF ⟨k, m, l, s, t, c, i, g⟩ z n) w) := by
  go_enter Try.func13, Try.ntmps13
  go_wp2_with (go_at_call 33; refine (count_any _ _).mono ?_; rintro e w1 ⟨rfl, rfl⟩)
  all_goals (refine bodyPost_ret (by simp [results, Try.results13, go_sem]; rfl) rfl ?_)
  all_goals (refine retA_mk ?_ (below2 ..))
  all_goals (grind [sizedF, Att.zero, rng])

set_option maxHeartbeats 4000000 in
theorem moded_any (k m l s t c i g z n : Int) (w : World) : Calls Try.prog 14 #[.agg #[.int .u8 k, .int .i64 m, .int .i64 l, .int .i64 s, .int .i64 t, .int .i64 c, .int .i64 i, .int .i64 g], .int .i64 z, .int .i64 n] w (RetA (modedF ⟨k, m, l, s, t, c, i, g⟩ z n) w) := by
  go_enter Try.func14, Try.ntmps14
  go_wp2_with (first | (go_at_call 31; refine (mayTime_any _ _).mono ?_; rintro e w1 ⟨rfl, rfl⟩) | (go_at_call 32; refine (within_any _ _ _ _).mono ?_; rintro e w1 ⟨rfl, rfl⟩))
  all_goals (refine bodyPost_ret (by simp [results, Try.results14, go_sem]; rfl) rfl ?_)
  all_goals (refine retA_mk ?_ (below2 ..))
  all_goals (grind [modedF, Att.zero, rng])

set_option maxHeartbeats 4000000 in
theorem modedR_any (k m l s t c i g z n : Int) (w : World) : Calls Try.prog 15 #[.agg #[.int .u8 k, .int .i64 m, .int .i64 l, .int .i64 s, .int .i64 t, .int .i64 c, .int .i64 i, .int .i64 g], .int .i64 z, .int .i64 n] w (RetA (modedF ⟨k, m, l, s, t, c, i, g⟩ z n) w) := by
  go_enter Try.func15, Try.ntmps15
  go_wp2_with (go_at_call 33; refine (count_any _ _).mono ?_; rintro e w1 ⟨rfl, rfl⟩)
  all_goals (refine bodyPost_ret (by simp [results, Try.results15, go_sem]; rfl) rfl ?_)
  all_goals (refine retA_mk ?_ (below2 ..))
  all_goals (grind [modedF, Att.zero, rng])

set_option maxHeartbeats 4000000 in
theorem linked_any (k m l s t c i g b n : Int) (w : World) (h0 : -9223372036854775808 ≤ l) (h1 : l ≤ 9223372036854775807) : Calls Try.prog 10 #[.agg #[.int .u8 k, .int .i64 m, .int .i64 l, .int .i64 s, .int .i64 t, .int .i64 c, .int .i64 i, .int .i64 g], .int .i64 b, .int .i64 n] w (RetA (linkedF ⟨k, m, l, s, t, c, i, g⟩ b n) w) := by
  go_enter Try.func10, Try.ntmps10
  go_wp2_with (first | (go_at_call 31; refine (mayTime_any _ _).mono ?_; rintro e w1 ⟨rfl, rfl⟩) | (go_at_call 32; refine (within_any _ _ _ _).mono ?_; rintro e w1 ⟨rfl, rfl⟩))
  all_goals (refine bodyPost_ret (by simp [results, Try.results10, go_sem]; rfl) rfl ?_)
  all_goals (refine retA_mk ?_ (below2 ..))
  all_goals (grind [linkedF, Att.zero, rng, wrap64])

set_option maxHeartbeats 4000000 in
theorem linkedR_any (k m l s t c i g b n : Int) (w : World) (h0 : -9223372036854775808 ≤ l) (h1 : l ≤ 9223372036854775807) : Calls Try.prog 11 #[.agg #[.int .u8 k, .int .i64 m, .int .i64 l, .int .i64 s, .int .i64 t, .int .i64 c, .int .i64 i, .int .i64 g], .int .i64 b, .int .i64 n] w (RetA (linkedF ⟨k, m, l, s, t, c, i, g⟩ b n) w) := by
  go_enter Try.func11, Try.ntmps11
  go_wp2_with (go_at_call 33; refine (count_any _ _).mono ?_; rintro e w1 ⟨rfl, rfl⟩)
  all_goals (refine bodyPost_ret (by simp [results, Try.results11, go_sem]; rfl) rfl ?_)
  all_goals (refine retA_mk ?_ (below2 ..))
  all_goals (grind [linkedF, Att.zero, rng, wrap64])

theorem handle_any (k m l s t c i g n : Int) (w : World) : Calls Try.prog 16 #[.agg #[.int .u8 k, .int .i64 m, .int .i64 l, .int .i64 s, .int .i64 t, .int .i64 c, .int .i64 i, .int .i64 g], .int .i64 n] w fun e w' => e = .returned (.agg #[.int .i64 n, .int .i64 i, .int .i64 g]) ∧ Below w.heap.size w w' := by
  go_enter Try.func16, Try.ntmps16
  go_wp2
  refine bodyPost_ret (by simp [results, Try.results16, go_sem]; rfl) rfl ?_
  exact ⟨rfl, below2 ..⟩
end Go.Proofs.Ytochpjoanldfpaa
