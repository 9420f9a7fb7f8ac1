/- DigestNames walked: it returns true. -/
import Derived.Test.YtfpmoamecjenlaaWe
import Derived.Test.YtfpmoamecjenlaaSe
namespace Go.Proofs.Ytfpmoamecjenlaa
open Go.RowKit

theorem zeros8_conv {w : World} {b : Nat} (h : RowAt w b 5 [.int .u8 0, .int .u8 0, .int .u8 0, .int .u8 0, .int .u8 0, .int .u8 0, .int .u8 0, .int .u8 0]) : (convert 35 9 (.slice (some ⟨b, 0, none⟩) 8 8)).run Try.prog w = .ok (.string ⟨#[0, 0, 0, 0, 0, 0, 0, 0]⟩) w :=
  run_string_of_slice (P := Try.prog) w 35 5 9 Try.underlying35 Try.underlying5 Try.underlying9 (some ⟨b, 0, none⟩) 8 8 [0, 0, 0, 0, 0, 0, 0, 0] (SliceAt.row h)
set_option maxRecDepth 100000 in
set_option maxHeartbeats 4000000 in
theorem names_any (w : World) : Calls Try.prog 4 #[] w fun e w' => e = .returned (.bool true) ∧ Below w.heap.size w w' := by
  have kc := fun (w : World) (C : Array Value) (n c : Nat) => Lib.run_convert_bytes_const (P := Try.prog) w 35 5 C n c Try.underlying35 Try.underlying5
  go_enter Try.func4, Try.ntmps4
  go_wp2_with fail
  refine (hwrite_nil _ _ _ _).mono ?_
  rintro e w' ⟨rfl, rfl⟩
  go_wp2_with fail
  refine (parse_lit _ 0 4 _ (by decide +kernel)).mono ?_
  rintro e w' ⟨rfl, rfl⟩
  go_wp2_with fail
  refine (parse_lit _ 0 4 _ (by decide +kernel)).mono ?_
  rintro e w' ⟨rfl, rfl⟩
  go_wp2_with fail
  refine (parse_lit _ 255 0 _ (by decide +kernel)).mono ?_
  rintro e w' ⟨rfl, rfl⟩
  have hw := (bA (Below.refl w.heap.size w) (.cells #[.int .u8 97] 5 (1, 2))).drew
  go_wp2_with fail
  refine wp_region_parts (by kernel_rfl) (by kernel_rfl) ?_
  generalize (w.alloc (.cells #[.int .u8 97] 5 (1, 2))).drew = W at *
  apply regL_lq W.heap.size
  intro D hD hn
  repeat (apply wpLQ_pin rfl rfl; intro K hK; go_big_quiet_op; (first | go_big_quiet_on | go_big_quiet_call (first
    | (go_at_call 21; exact Calls.bds _ (hcopy_nil _))
    | (go_at_call 22; exact Calls.bds _ (hsum_nil _))
    | (go_at_call 18; with_reducible exact Calls.bd (Nat.le_refl _) hD _ (text_lit start [99, 98, 102, 50, 57, 99, 101, 52, 56, 52, 50, 50, 50, 51, 50, 53] _ (by decide) (by decide) (by decide +kernel)))
    | (go_at_call 18; with_reducible exact Calls.bd (Nat.le_refl _) hD _ (text_lit 9625390261332436968 [56, 53, 57, 52, 52, 49, 55, 49, 102, 55, 51, 57, 54, 55, 101, 56] _ (by decide) (by decide) (by decide +kernel)))
    | (go_at_call 14; with_reducible exact Calls.bds _ (sum_lit ⟨#[]⟩ start _ (by decide) (by decide +kernel)))
    | (go_at_call 14; with_reducible exact Calls.bds _ (sum_lit ⟨#[102, 111, 111, 98, 97, 114]⟩ 9625390261332436968 _ (by decide) (by decide +kernel)))
    | (go_at_call 16; exact Calls.bd (Nat.le_refl _) hD _ (of_lit none 0 0 [] start _ (SliceAt.nil _ _) (by decide) (by decide) rfl)))); apply And.intro rfl)
  apply wpLQ_loose (NewRow 9 [.string ⟨#[]⟩]) (newRow_stable _ _) (Nat.le_refl _) hD rfl
  · intro x _
    unfold Runs
    go_simp
    exact newRow_new x.val 9 [.string ⟨#[]⟩]
  intro u
  simp only [Act.put, List.setIfInBounds_toArray, List.set_cons_succ, List.set_cons_zero]
  apply wpLQ_at (.int .u64 12161962213042174405) (Nat.le_refl _) hD rfl
  · intro x hx
    obtain ⟨b, rfl, hb⟩ := Facts.head hx (anc_of (by kernel_rfl))
    unfold Runs
    go_simp
    refine (of_lit _ 1 1 [⟨#[]⟩] 12161962213042174405 _ (SliceAt.row hb) (by decide) (by decide) (by decide +kernel)).mono ?_
    rintro e w1 ⟨rfl, hb1⟩
    simpa using hb1
  simp only [Act.put, List.setIfInBounds_toArray, List.set_cons_succ, List.set_cons_zero]
  apply wpLQ_loose (NewRow 5 [.int .u8 0, .int .u8 0, .int .u8 0, .int .u8 0, .int .u8 0, .int .u8 0, .int .u8 0, .int .u8 0]) (newRow_stable _ _) (Nat.le_refl _) hD rfl
  · intro x _
    have hmk := make8
    unfold Runs
    go_simp
    exact newRow_new x.val 5 [.int .u8 0, .int .u8 0, .int .u8 0, .int .u8 0, .int .u8 0, .int .u8 0, .int .u8 0, .int .u8 0]
  intro u2
  simp only [Act.put, List.setIfInBounds_toArray, List.set_cons_succ, List.set_cons_zero]
  apply wpLQ_at (.string ⟨#[0, 0, 0, 0, 0, 0, 0, 0]⟩) (Nat.le_refl _) hD rfl
  · intro x hx
    obtain ⟨b, rfl, hb⟩ := Facts.head hx (anc_of (by kernel_rfl))
    have hc := zeros8_conv hb
    unfold Runs
    go_simp
    exact ⟨rfl, Below.refl _ _⟩
  simp only [Act.put, List.setIfInBounds_toArray, List.set_cons_succ, List.set_cons_zero]
  repeat (apply wpLQ_pin rfl rfl; intro K hK; go_big_quiet_op; (first | go_big_quiet_on | go_big_quiet_call (first
    | (go_at_call 14; with_reducible exact Calls.bds _ (sum_lit ⟨#[0, 0, 0, 0, 0, 0, 0, 0]⟩ 12161962213042174405 _ (by decide) (by decide +kernel)))
    | (go_at_call 18; with_reducible exact Calls.bd (Nat.le_refl _) hD _ (text_lit 0 [48, 48, 48, 48, 48, 48, 48, 48, 48, 48, 48, 48, 48, 48, 48, 48] _ (by decide) (by decide) (by decide +kernel)))
    | (go_at_call 18; with_reducible exact Calls.bd (Nat.le_refl _) hD _ (text_lit 18446744073709551615 [102, 102, 102, 102, 102, 102, 102, 102, 102, 102, 102, 102, 102, 102, 102, 102] _ (by decide) (by decide) (by decide +kernel)))
    | (go_at_call 11; exact Calls.bd (Nat.le_refl _) hD _ (awake_any _)))); apply And.intro rfl)
  apply wpLQ_nil (by simp)
  intro w6 hb _
  go_wp2
  go_ret
  exact ⟨rfl, bt hw hb⟩
end Go.Proofs.Ytfpmoamecjenlaa
