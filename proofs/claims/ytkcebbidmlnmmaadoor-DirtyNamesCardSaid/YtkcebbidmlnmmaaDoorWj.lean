/- Numbers as text; the boot's verifier. -/
import Derived.Test.YtkcebbidmlnmmaaDoorWi
import Derived.Test.YtkcebbidmlnmmaaDoorSh
import Derived.Lib.ItoaLen
namespace Go.Proofs.YtkcebbidmlnmmaaDoor
open Go.RowKit
theorem one_conv (c : UInt8) (w : World) : (convert 30 9 (.slice (some ⟨w.heap.size, 0, none⟩) 1 1)).run Tryd.prog (w.alloc (.cells #[.int .u8 c.toNat] 5)) = .ok (.string ⟨#[c]⟩) (w.alloc (.cells #[.int .u8 c.toNat] 5)) :=
  run_string_of_slice (P := Tryd.prog) _ 30 5 9 Tryd.underlying30 Tryd.underlying5 Tryd.underlying9 (some ⟨w.heap.size, 0, none⟩) 1 1 [c] (SliceAt.row (RowAt.new w 5 [B8 c]))
theorem dig_conv (d : Nat) (hd : d < 10) (w : World) : (convert 30 9 (.slice (some ⟨w.heap.size, 0, none⟩) 1 1)).run Tryd.prog (w.alloc (.cells #[.int .u8 (48 + (d : Int))] 5)) = .ok (.string ⟨#[UInt8.ofNat (48 + d)]⟩) (w.alloc (.cells #[.int .u8 (48 + (d : Int))] 5)) := by
  have e : ((UInt8.ofNat (48 + d)).toNat : Int) = 48 + (d : Int) := by
    have : (UInt8.ofNat (48 + d)).toNat = 48 + d := by simp [UInt8.toNat_ofNat']; omega
    omega
  rw [← e]
  exact one_conv _ w
def dq (q : Nat) : List UInt8 := if q = 0 then [] else Lib.decDigits q
theorem dec_step (q : Nat) : Lib.decDigits q = dq (q / 10) ++ [UInt8.ofNat (48 + q % 10)] := by
  unfold dq
  by_cases h : q < 10
  · rw [Lib.decDigits_one h, if_pos (by omega), Nat.mod_eq_of_lt h]; rfl
  · rw [Lib.decDigits, dif_neg h, if_neg (by omega)]
def dgt (d : Nat) : UInt8 := UInt8.ofNat (48 + d)
theorem dig_conv' (d : Int) (h0 : 0 ≤ d) (hd : d < 10) (w : World) : (convert 30 9 (.slice (some ⟨w.heap.size, 0, none⟩) 1 1)).run Tryd.prog (w.alloc (.cells #[.int .u8 (48 + d)] 5)) = .ok (.string ⟨#[dgt d.toNat]⟩) (w.alloc (.cells #[.int .u8 (48 + d)] 5)) := by
  have := dig_conv d.toNat (by omega) w
  rw [show ((d.toNat : Nat) : Int) = d by omega] at this
  exact this
/-- What a digit's reckoning comes to. -/
theorem dig_facts (q : Nat) (hq : q < 18446744073709551616) (a : Int) (ha : a = q) : ∃ d q' : Int, a.tmod 10 = d ∧ a.tdiv 10 = q' ∧ 0 ≤ d ∧ d < 10 ∧ d.toNat = q % 10 ∧ q' = ((q / 10 : Nat) : Int) ∧ IntKind.u64.wrap (48 + d) = 48 + d ∧ (48 + d) % 256 = 48 + d ∧ IntKind.u64.wrap q' = q' := by
  subst ha
  have e1 : Int.tmod (q : Int) 10 = ((q % 10 : Nat) : Int) := by rw [Int.tmod_eq_emod_of_nonneg (by omega)]; omega
  have e2 : Int.tdiv (q : Int) 10 = ((q / 10 : Nat) : Int) := by rw [Int.tdiv_eq_ediv_of_nonneg (by omega)]; omega
  refine ⟨_, _, e1, e2, by omega, by omega, by omega, rfl, ?_, by omega, ?_⟩
  · rw [IntKind.wrap_u64]; omega
  · rw [IntKind.wrap_u64]; omega
/-- The state of the loop: q is still to be written, l is. -/
def DgAt (w : World) (M : List UInt8) (u s : Value) (wr : World) : Prop := ∃ (q : Nat) (l : List UInt8), q < 18446744073709551616 ∧ u = .int .u64 (q : Int) ∧ s = .string ⟨l.toArray⟩ ∧ M = dq q ++ l ∧ Below w.heap.size w wr
set_option maxHeartbeats 2000000 in
set_option maxRecDepth 20000 in
theorem digits_any (n : Int) (h0 : -9223372036854775808 ≤ n) (h1 : n ≤ 9223372036854775807) (w : World) :
    Calls Tryd.prog 28 #[.int .i64 n] w fun e w' => e = .returned (.string ⟨(Lib.itoa n).toArray⟩) ∧ Below w.heap.size w w' := by
  obtain ⟨m, hm⟩ : ∃ m : Nat, n.natAbs = m := ⟨_, rfl⟩
  have HLEN := Lib.hid (Lib.itoa_length_le n h0 h1)
  by_cases hn : n < 0
  · have gn : decide (n < 0) = true := by simpa using hn
    obtain ⟨a, ha⟩ : ∃ a : Int, a = -n := ⟨_, rfl⟩
    obtain ⟨a0, ha0⟩ : ∃ a0 : Int, IntKind.u64.wrap n = a0 := ⟨_, rfl⟩
    have hw : IntKind.u64.wrap (-a0) = a := by rw [← ha0, IntKind.wrap_u64, IntKind.wrap_u64]; omega
    obtain ⟨d, q0, f1, f2, f3, f4, f5, f6, f7, f8, f9⟩ := dig_facts m (by omega) a (by omega)
    have HI := Lib.hid (show Lib.decDigits m = dq (m / 10) ++ [dgt (m % 10)] by unfold dgt; rw [← dec_step])
    have HIT := Lib.hid (show Lib.itoa n = 45 :: Lib.decDigits m by unfold Lib.itoa; rw [if_pos hn, hm])
    have hcv := dig_conv' d f3 f4
    have H5 := Lib.hid f5
    have H6 := Lib.hid f6
    have HL := Lib.hid (show m / 10 < 18446744073709551616 by omega)
    clear hm h0 h1 hn ha f5 f6
    go_enter Tryd.func28, Tryd.ntmps28
    go_wp2_with fail
    go_loopw [3, 4] (fun u s wr => DgAt w (Lib.decDigits m) u s wr) (fun u _ _ => (intOf u).toNat)
    case atStart => exact ⟨m / 10, [dgt (m % 10)], HL.out, by rw [H6.out], by rw [H5.out], HI.out, bA (Below.refl _ _) _⟩
    case round =>
      clear hcv hw ha0 f1 f2 f3 f4 f7 f8 f9 HI H5 H6 HL
      obtain ⟨q, l, hql, rfl, rfl, hM, hb⟩ := hrel
      have HMM := Lib.hid hM
      clear hM
      by_cases hq0 : q = 0
      · subst hq0
        have hll : l.length ≤ 21 := by
          have := HLEN.out
          rw [HIT.out, HMM.out, List.length_cons, List.length_append] at this
          omega
        go_wp2_with fail
        go_ret
        exact ⟨by rw [HIT.out, HMM.out]; simp [dq, ByteArray.mk_append_mk], hb⟩
      · obtain ⟨a1, ha1⟩ : ∃ a1 : Int, (q : Int) = a1 := ⟨_, rfl⟩
        obtain ⟨d1, q1, f1, f2, f3, f4, f5, f6, f7, f8, f9⟩ := dig_facts q hql a1 ha1.symm
        have hll : l.length ≤ 21 := by
          have := HLEN.out
          rw [HIT.out, HMM.out, List.length_cons, List.length_append] at this
          omega
        have HI := Lib.hid (show dq q ++ l = dq (q / 10) ++ (dgt (q % 10) :: l) by
          have : dq q = Lib.decDigits q := by unfold dq; rw [if_neg hq0]
          rw [this, dec_step]; unfold dgt; simp)
        have hcv := dig_conv' d1 f3 f4
        have H5 := Lib.hid f5
        have H6 := Lib.hid f6
        have HL := Lib.hid hql
        have HA := Lib.hid ha1
        have HQ := Lib.hid hq0
        have g1 : decide (a1 > 0) = true := by simp; omega
        have g1' : decide (0 < a1) = true := by simp; omega
        rw [ha1]
        clear f5 f6 hql ha1 hq0
        go_wp2_with fail
        go_roundw
        case rel => exact ⟨q / 10, dgt (q % 10) :: l, by have := HL.out; omega, by rw [H6.out], by rw [H5.out]; simp [ByteArray.mk_append_mk], by rw [HMM.out, HI.out], bA hb _⟩
        case measure =>
          have h1 := HA.out
          have h2 := H6.out
          have h3 := HQ.out
          simp only [intOf]
          omega
  · have gn : decide (n < 0) = false := by simpa using hn
    obtain ⟨a, ha⟩ : ∃ a : Int, a = n := ⟨_, rfl⟩
    have hw : IntKind.u64.wrap n = a := by rw [IntKind.wrap_u64]; omega
    obtain ⟨d, q0, f1, f2, f3, f4, f5, f6, f7, f8, f9⟩ := dig_facts m (by omega) a (by omega)
    have HI := Lib.hid (show Lib.itoa n = dq (m / 10) ++ [dgt (m % 10)] by unfold dgt; rw [← dec_step]; unfold Lib.itoa; rw [if_neg hn]; congr 1; omega)
    have hcv := dig_conv' d f3 f4
    have H5 := Lib.hid f5
    have H6 := Lib.hid f6
    have HL := Lib.hid (show m / 10 < 18446744073709551616 by omega)
    clear hm h0 h1 hn ha f5 f6
    go_enter Tryd.func28, Tryd.ntmps28
    go_wp2_with fail
    go_loopw [3, 4] (fun u s wr => DgAt w (Lib.itoa n) u s wr) (fun u _ _ => (intOf u).toNat)
    case atStart => exact ⟨m / 10, [dgt (m % 10)], HL.out, by rw [H6.out], by rw [H5.out], HI.out, bA (Below.refl _ _) _⟩
    case round =>
      clear hcv hw f1 f2 f3 f4 f7 f8 f9 HI H5 H6 HL
      obtain ⟨q, l, hql, rfl, rfl, hM, hb⟩ := hrel
      have HMM := Lib.hid hM
      clear hM
      by_cases hq0 : q = 0
      · subst hq0
        go_wp2_with fail
        go_ret
        exact ⟨by rw [HMM.out]; rfl, hb⟩
      · obtain ⟨a1, ha1⟩ : ∃ a1 : Int, (q : Int) = a1 := ⟨_, rfl⟩
        obtain ⟨d1, q1, f1, f2, f3, f4, f5, f6, f7, f8, f9⟩ := dig_facts q hql a1 ha1.symm
        have hll : l.length ≤ 21 := by
          have := HLEN.out
          rw [HMM.out, List.length_append] at this
          omega
        have HI := Lib.hid (show dq q ++ l = dq (q / 10) ++ (dgt (q % 10) :: l) by
          have : dq q = Lib.decDigits q := by unfold dq; rw [if_neg hq0]
          rw [this, dec_step]; unfold dgt; simp)
        have hcv := dig_conv' d1 f3 f4
        have H5 := Lib.hid f5
        have H6 := Lib.hid f6
        have HL := Lib.hid hql
        have HA := Lib.hid ha1
        have HQ := Lib.hid hq0
        have g1 : decide (a1 > 0) = true := by simp; omega
        have g1' : decide (0 < a1) = true := by simp; omega
        rw [ha1]
        clear f5 f6 hql ha1 hq0
        go_wp2_with fail
        go_roundw
        case rel => exact ⟨q / 10, dgt (q % 10) :: l, by have := HL.out; omega, by rw [H6.out], by rw [H5.out]; simp [ByteArray.mk_append_mk], by rw [HMM.out, HI.out], bA hb _⟩
        case measure =>
          have h1 := HA.out
          have h2 := H6.out
          have h3 := HQ.out
          simp only [intOf]
          omega
theorem itoa_small (i : Nat) : Lib.itoa (i : Int) = Lib.decDigits i := by unfold Lib.itoa; rw [if_neg (by omega)]; simp
/-- A boot's verifier. -/
def verfV (n : Int) : Int := ofL start [⟨#[106, 101, 116, 116, 121]⟩, ⟨(Lib.itoa n).toArray⟩]
end Go.Proofs.YtkcebbidmlnmmaaDoor
