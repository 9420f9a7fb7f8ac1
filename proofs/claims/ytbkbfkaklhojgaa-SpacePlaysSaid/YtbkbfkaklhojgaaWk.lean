/- Nobody's space; SpaceNames: the walk. -/
import Derived.Test.YtbkbfkaklhojgaaWj
namespace Go.Proofs.Ytbkbfkaklhojgaa
open Go.RowKit Go.Shelf
theorem take_nil (w : World) : Calls Try.prog 8 #[.pointer none] w fun e w' => e = .returned (.tuple #[.int .i64 0, .int .i64 2]) ∧ Below w.heap.size w w' := by
  have HB : Hid (Below w.heap.size w (((w.alloc (.cells #[.pointer none] 25)).alloc (.cells #[.int .i64 0] 3)).alloc (.cells #[.int .i64 2] 26))) := Lib.hid ((((Below.refl _ _).alloc (Nat.le_refl _) _).alloc (by simp) _).alloc (by simp; omega) _)
  go_enter Try.func8, Try.ntmps8
  go_wp2
  all_goals refine bodyPost_ret (by simp [results, Try.results8, go_sem]; rfl) rfl ?_
  all_goals exact ⟨rfl, HB.out⟩
theorem settle_nil (w : World) : Calls Try.prog 11 #[.pointer none] w fun e w' => e = .returned (.tuple #[]) ∧ w' = w := by
  go_enter Try.func11, Try.ntmps11
  go_wp2
  go_end0
  exact ⟨rfl, rfl⟩
theorem back_nil (w : World) : Calls Try.prog 12 #[.pointer none] w fun e w' => e = .returned (.tuple #[]) ∧ w' = w := by
  go_enter Try.func12, Try.ntmps12
  go_wp2
  go_end0
  exact ⟨rfl, rfl⟩
theorem mark_nil (w : World) : Calls Try.prog 10 #[.pointer none, .int .i64 2] w fun e w' => e = .returned (.int .i64 2) ∧ w' = w := by
  go_enter Try.func10, Try.ntmps10
  go_wp2
  all_goals refine bodyPost_ret (by simp [results, Try.results10, go_sem]; rfl) rfl ?_
  all_goals exact ⟨rfl, rfl⟩
theorem give_nil (w : World) : Calls Try.prog 9 #[.pointer none, .int .i64 2] w fun e w' => e = .returned (.int .i64 2) ∧ w' = w := by
  go_enter Try.func9, Try.ntmps9
  go_wp2
  all_goals refine bodyPost_ret (by simp [results, Try.results9, go_sem]; rfl) rfl ?_
  all_goals exact ⟨rfl, rfl⟩
theorem free_nil (w : World) : Calls Try.prog 15 #[.pointer none] w fun e w' => e = .returned (.int .i64 0) ∧ w' = w := by
  go_enter Try.func15, Try.ntmps15
  go_wp2
  all_goals refine bodyPost_ret (by simp [results, Try.results15, go_sem]; rfl) rfl ?_
  all_goals exact ⟨rfl, rfl⟩
theorem waits_nil (w : World) : Calls Try.prog 14 #[.pointer none] w fun e w' => e = .returned (.int .i64 0) ∧ w' = w := by
  go_enter Try.func14, Try.ntmps14
  go_wp2
  all_goals refine bodyPost_ret (by simp [results, Try.results14, go_sem]; rfl) rfl ?_
  all_goals exact ⟨rfl, rfl⟩
theorem taken_nil (w : World) : Calls Try.prog 13 #[.pointer none, .int .i64 0] w fun e w' => e = .returned (.bool false) ∧ w' = w := by
  go_enter Try.func13, Try.ntmps13
  go_wp2
  all_goals refine bodyPost_ret (by simp [results, Try.results13, go_sem]; rfl) rfl ?_
  all_goals exact ⟨rfl, rfl⟩
theorem copy_nil (w : World) : Calls Try.prog 17 #[.pointer none] w fun e w' => e = .returned (.pointer none) ∧ w' = w := by
  go_enter Try.func17, Try.ntmps17
  go_wp2
  all_goals refine bodyPost_ret (by simp [results, Try.results17, go_sem]; rfl) rfl ?_
  all_goals exact ⟨rfl, rfl⟩
/-- A space behind a base. -/
structure AT (w : World) (b N last : Nat) (f : Nat → Nat) (W : World) : Prop where
  si : SI W b N last f
  be : Below w.heap.size w W
  le : w.heap.size ≤ b
theorem AT.step {w : World} {b N last last' : Nat} {f f' : Nat → Nat} {W W' : World} (h : AT w b N last f W) (k : SI W' b N last' f') (hf : Fr (· = b) W W') : AT w b N last' f' W' :=
  ⟨k, Below.fr h.be hf h.be.size (fun _ e => Nat.le_trans h.le (Nat.le_of_eq e.symm)), h.le⟩
theorem AT.new {w W W' : World} {N last : Nat} {f : Nat → Nat} (h : Below w.heap.size w W) (k : SI W' W.heap.size N last f) (hb : Below W.heap.size W W') : AT w W.heap.size N last f W' := ⟨k, bt h hb, h.size⟩
/-- As many are taken, one behind the other. -/
def fillF (k : Nat) : Nat → Nat := fun i => if i < 2 then 1 else if i < k then 2 else 0
theorem fill_two : newF = fillF 2 := by
  funext i
  unfold newF fillF upd
  by_cases h1 : i = 1
  · subst h1; rfl
  · rw [if_neg h1]
    by_cases h0 : i = 0
    · subst h0; rfl
    · rw [if_neg h0, if_neg (by omega), if_neg (by omega)]
theorem fill_next (k : Nat) (hk : 2 ≤ k) : upd (fillF k) k 2 = fillF (k + 1) := by
  funext i
  unfold upd fillF
  by_cases h : i = k
  · subst h; rw [if_pos rfl, if_neg (by omega), if_pos (by omega)]
  · rw [if_neg h]
    by_cases h2 : i < 2
    · rw [if_pos h2, if_pos h2]
    · rw [if_neg h2, if_neg h2]
      by_cases h3 : i < k
      · rw [if_pos h3, if_pos (by omega)]
      · rw [if_neg h3, if_neg (by omega)]
def lst (k : Nat) : Nat := if k = 2 then 0 else k - 1
theorem fill_take (k : Nat) (h2 : 2 ≤ k) (hk : k < 64) : TakeP 64 (lst k) (fillF k) (some k) := by
  refine ⟨h2, hk, by unfold fillF; rw [if_neg (by omega), if_neg (by omega)], .inl ⟨by unfold lst; split <;> omega, fun i a b c => ?_⟩⟩
  unfold lst at a
  split at a <;> omega
def NInv (w : World) (b : Nat) (i : Value) (W : World) : Prop := ∃ k : Nat, 2 ≤ k ∧ k ≤ 64 ∧ i = .int .i64 k ∧ AT w b 64 (lst k) (fillF k) W
def bf1 : Nat → Nat := upd newF 8191 1
def bf2 : Nat → Nat := upd bf1 8191 3
def cf1 : Nat → Nat := upd (fillF 64) 5 0
set_option maxRecDepth 20000 in
set_option maxHeartbeats 4000000 in
theorem names_law (w : World) : Calls Try.prog 5 #[] w fun e w' => e = .returned (.bool true) ∧ Below w.heap.size w w' := by
  go_enter Try.func5, Try.ntmps5
  go_wp2_with fail
  refine (take_nil w).mono ?_
  rintro e w0 ⟨rfl, hb⟩
  have HB := Lib.hid hb
  clear hb
  go_wp2_with fail
  refine (settle_nil w0).mono ?_
  rintro e w' ⟨rfl, hw⟩
  rw [hw]
  clear hw
  go_wp2_with fail
  refine (back_nil w0).mono ?_
  rintro e w' ⟨rfl, hw⟩
  rw [hw]
  clear hw
  go_wp2_with fail
  refine (new_not w0 63 (by decide)).mono ?_
  rintro e w' ⟨rfl, hw⟩
  rw [hw]
  clear hw
  go_wp2_with fail
  refine (new_not w0 8193 (by decide)).mono ?_
  rintro e w' ⟨rfl, hw⟩
  rw [hw]
  clear hw
  go_wp2_with fail
  refine (new_any w0 8192 (by decide) (by decide)).mono ?_
  rintro e w1 ⟨rfl, hs, hb⟩
  have HS : Hid (AT w w0.heap.size 8192 0 newF w1) := Lib.hid (AT.new HB.out hs hb)
  obtain ⟨b, hbb⟩ : ∃ b, b = w0.heap.size := ⟨_, rfl⟩
  rw [← hbb] at HS ⊢
  clear hbb hs hb
  go_wp2_with fail
  have hg := mark_any w1 b 8192 (0 : Nat) newF HS.out.si (by decide) 1
  rw [show markE 8192 newF 1 = 1 from by kernel_rfl, show markF 8192 newF 1 = newF from rfl] at hg
  refine hg.mono ?_
  rintro e w2 ⟨rfl, hs, hf⟩
  have HT : Hid (AT w b 8192 0 newF w2) := Lib.hid (HS.out.step hs hf)
  clear hs hf HS hg
  have HS := HT
  clear HT
  go_wp2_with fail
  have hg := mark_any w2 b 8192 (0 : Nat) newF HS.out.si (by decide) 8192
  rw [show markE 8192 newF 8192 = 1 from by kernel_rfl, show markF 8192 newF 8192 = newF from rfl] at hg
  refine hg.mono ?_
  rintro e w3 ⟨rfl, hs, hf⟩
  have HT : Hid (AT w b 8192 0 newF w3) := Lib.hid (HS.out.step hs hf)
  clear hs hf HS hg
  have HS := HT
  clear HT
  go_wp2_with fail
  have hg := mark_any w3 b 8192 (0 : Nat) newF HS.out.si (by decide) 8191
  rw [show markE 8192 newF 8191 = 0 from by kernel_rfl, show markF 8192 newF 8191 = bf1 from rfl] at hg
  refine hg.mono ?_
  rintro e w4 ⟨rfl, hs, hf⟩
  have HT : Hid (AT w b 8192 0 bf1 w4) := Lib.hid (HS.out.step hs hf)
  clear hs hf HS hg
  have HS := HT
  clear HT
  go_wp2_with fail
  have hg := give_any w4 b 8192 (0 : Nat) bf1 HS.out.si (by decide) 0
  rw [show giveE 8192 bf1 0 = 1 from by kernel_rfl, show giveF 8192 bf1 0 = bf1 from rfl] at hg
  refine hg.mono ?_
  rintro e w5 ⟨rfl, hs, hf⟩
  have HT : Hid (AT w b 8192 0 bf1 w5) := Lib.hid (HS.out.step hs hf)
  clear hs hf HS hg
  have HS := HT
  clear HT
  go_wp2_with fail
  have hg := give_any w5 b 8192 (0 : Nat) bf1 HS.out.si (by decide) 8190
  rw [show giveE 8192 bf1 8190 = 5 from by kernel_rfl, show giveF 8192 bf1 8190 = bf1 from rfl] at hg
  refine hg.mono ?_
  rintro e w6 ⟨rfl, hs, hf⟩
  have HT : Hid (AT w b 8192 0 bf1 w6) := Lib.hid (HS.out.step hs hf)
  clear hs hf HS hg
  have HS := HT
  clear HT
  go_wp2_with fail
  have hg := give_any w6 b 8192 (0 : Nat) bf1 HS.out.si (by decide) 8191
  rw [show giveE 8192 bf1 8191 = 0 from by kernel_rfl, show giveF 8192 bf1 8191 = bf2 from rfl] at hg
  refine hg.mono ?_
  rintro e w7 ⟨rfl, hs, hf⟩
  have HT : Hid (AT w b 8192 0 bf2 w7) := Lib.hid (HS.out.step hs hf)
  clear hs hf HS hg
  have HS := HT
  clear HT
  go_wp2_with fail
  refine (new_any w7 64 (by decide) (by decide)).mono ?_
  rintro e w8 ⟨rfl, hs, hb⟩
  have HT : Hid (AT w w7.heap.size 64 0 newF w8) := Lib.hid (AT.new HS.out.be hs hb)
  obtain ⟨c, hbb⟩ : ∃ b, b = w7.heap.size := ⟨_, rfl⟩
  rw [← hbb] at HT ⊢
  clear hbb hs hb HS HB
  go_wp2_with fail
  go_loopw [18] (fun i wr => NInv w c i wr) (fun i _ => 64 - (intOf i).toNat)
  case atStart => exact ⟨2, by omega, by omega, rfl, by rw [← fill_two]; exact HT.out⟩
  case round =>
    obtain ⟨k, hk2, hk, rfl, hat⟩ := hrel
    have HS := Lib.hid hat
    clear hat HT
    by_cases hlt : k < 64
    · have hlt' : (k : Int) < 64 := by omega
      have HTK := Lib.hid (take_at wr c 64 (lst k) (fillF k) HS.out.si (by decide) (by decide) (by unfold lst; split <;> omega) k (fill_take k hk2 hlt))
      go_wp2_with fail
      refine HTK.out.mono ?_
      rintro e wq ⟨rfl, hs, hf⟩
      have HT : Hid (AT w c 64 k (fillF (k + 1)) wq) := Lib.hid (by rw [← fill_next k hk2]; exact HS.out.step hs hf)
      clear hs hf HTK
      go_wp2_with fail
      go_roundw
      case rel => exact ⟨k + 1, by omega, by omega, by go_num, by have := HT.out; rwa [show lst (k + 1) = k from by unfold lst; rw [if_neg (by omega)]; omega]⟩
      case measure => simp [intOf]; omega
    · obtain rfl : k = 64 := by omega
      have hge : decide ((64 : Int) < 64) = false := by decide
      go_wp2_with fail
      clear hlt hk2 hk hge
      refine (take_full wr c 64 63 (fillF 64) HS.out.si (by decide) (by decide) (by decide) (fun i h1 h2 => by unfold fillF; rw [if_neg (by omega), if_pos h2]; decide)).mono ?_
      rintro e x1 ⟨rfl, hs, hf⟩
      have HT : Hid (AT w c 64 63 (fillF 64) x1) := Lib.hid (HS.out.step hs hf)
      clear hs hf
      go_wp2_with fail
      have hg := give_any x1 c 64 (63 : Nat) (fillF 64) HT.out.si (by decide) 5
      rw [show giveE 64 (fillF 64) 5 = 0 from by kernel_rfl, show giveF 64 (fillF 64) 5 = cf1 from rfl] at hg
      refine hg.mono ?_
      rintro e x2 ⟨rfl, hs, hf⟩
      have HT2 : Hid (AT w c 64 63 cf1 x2) := Lib.hid (HT.out.step hs hf)
      clear hs hf hg
      go_wp2_with fail
      refine (take_at x2 c 64 63 cf1 HT2.out.si (by decide) (by decide) (by decide) 5 ⟨by decide, by decide, by kernel_rfl, .inr ⟨by decide, by omega, fun i h1 h2 => by unfold cf1 upd fillF; rw [if_neg (by omega), if_neg (by omega), if_pos (by omega)]; decide⟩⟩).mono ?_
      rintro e x3 ⟨rfl, hs, hf⟩
      have HT3 : Hid (AT w c 64 5 (upd cf1 5 2) x3) := Lib.hid (HT2.out.step hs hf)
      clear hs hf
      go_wp2_with fail
      refine (mark_nil x3).mono ?_
      rintro e w' ⟨rfl, hw⟩
      rw [hw]
      clear hw
      go_wp2_with fail
      refine (give_nil x3).mono ?_
      rintro e w' ⟨rfl, hw⟩
      rw [hw]
      clear hw
      go_wp2_with fail
      refine (free_nil x3).mono ?_
      rintro e w' ⟨rfl, hw⟩
      rw [hw]
      clear hw
      go_wp2_with fail
      refine (waits_nil x3).mono ?_
      rintro e w' ⟨rfl, hw⟩
      rw [hw]
      clear hw
      go_wp2_with fail
      refine (taken_nil x3).mono ?_
      rintro e w' ⟨rfl, hw⟩
      rw [hw]
      clear hw
      go_wp2_with fail
      refine (copy_nil x3).mono ?_
      rintro e w' ⟨rfl, hw⟩
      rw [hw]
      clear hw
      go_wp2_with fail
      refine (awake_any x3).mono ?_
      rintro e x4 ⟨rfl, hb⟩
      have HB4 := Lib.hid (bt HT3.out.be hb)
      clear hb
      go_wp2_with fail
      all_goals refine bodyPost_ret (by simp [results, Try.results5, go_sem]; rfl) rfl ?_
      all_goals exact ⟨rfl, HB4.out⟩
end Go.Proofs.Ytbkbfkaklhojgaa
