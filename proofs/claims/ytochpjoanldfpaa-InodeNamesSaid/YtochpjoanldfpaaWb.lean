/- 4 bytes of a number, and back. -/
import Derived.Test.YtochpjoanldfpaaBa
import Derived.StillTailTactics
import Derived.Handy
namespace Go.Proofs.Ytochpjoanldfpaa
open Go.RowKit
def by8 (n : Int) : UInt8 := UInt8.ofNat (n % 256).toNat
theorem by8_val (n : Int) : B8 (by8 n) = .int .u8 (n % 256) := by
  unfold B8 by8
  congr 1
  simp
  omega
def wordL (n : Int) : List UInt8 := [by8 (n / 16777216), by8 (n / 65536), by8 (n / 256), by8 n]
theorem wordL_vals (n : Int) : (wordL n).map B8 = [.int .u8 (n / 16777216 % 256), .int .u8 (n / 65536 % 256), .int .u8 (n / 256 % 256), .int .u8 (n % 256)] := by
  simp [wordL, by8_val]
theorem word_conv (n : Int) (w : World) : (convert 58 9 (.slice (some ⟨w.heap.size, 0, none⟩) 4 4)).run Try.prog (w.alloc (.cells #[.int .u8 (n / 16777216 % 256), .int .u8 (n / 65536 % 256), .int .u8 (n / 256 % 256), .int .u8 (n % 256)] 5)) = .ok (.string ⟨(wordL n).toArray⟩) (w.alloc (.cells #[.int .u8 (n / 16777216 % 256), .int .u8 (n / 65536 % 256), .int .u8 (n / 256 % 256), .int .u8 (n % 256)] 5)) :=
  run_string_of_slice _ 58 5 9 Try.underlying58 Try.underlying5 Try.underlying9 _ 4 4 (wordL n) (by rw [wordL_vals]; exact SliceAt.row (RowAt.new w 5 _))
theorem word_any (n : Int) (w : World) : Calls Try.prog 37 #[.int .i64 n] w fun e w' => e = .returned (.string ⟨(wordL n).toArray⟩) ∧ Below w.heap.size w w' := by
  have hc := word_conv n w
  go_enter Try.func37, Try.ntmps37
  go_wp2
  go_ret
  exact ⟨rfl, (Below.refl _ _).alloc (Nat.le_refl _) _⟩
theorem wrap_small {x : Int} (h : 0 ≤ x) (h2 : x < 1099511627776) : IntKind.i64.wrap x = x := by
  rw [IntKind.wrap_i64]
  omega
def numF (a b c d : UInt8) : Int := a.toNat * 16777216 + b.toNat * 65536 + c.toNat * 256 + d.toNat
theorem num_raw (a b c d : UInt8) : IntKind.i64.wrap (IntKind.i64.wrap (IntKind.i64.wrap (IntKind.i64.wrap (IntKind.i64.wrap (a.toNat : Int) * 16777216) + IntKind.i64.wrap (IntKind.i64.wrap (b.toNat : Int) * 65536)) + IntKind.i64.wrap (IntKind.i64.wrap (c.toNat : Int) * 256)) + IntKind.i64.wrap (d.toNat : Int)) = numF a b c d := by
  have := a.toNat_lt
  have := b.toNat_lt
  have := c.toNat_lt
  have := d.toNat_lt
  unfold numF
  rw [wrap_small (x := (a.toNat : Int)) (by omega) (by omega), wrap_small (x := (b.toNat : Int)) (by omega) (by omega), wrap_small (x := (c.toNat : Int)) (by omega) (by omega), wrap_small (x := (d.toNat : Int)) (by omega) (by omega), wrap_small (x := (a.toNat : Int) * 16777216) (by omega) (by omega), wrap_small (x := (b.toNat : Int) * 65536) (by omega) (by omega), wrap_small (x := (c.toNat : Int) * 256) (by omega) (by omega)]
  rw [wrap_small (x := (a.toNat : Int) * 16777216 + b.toNat * 65536) (by omega) (by omega), wrap_small (x := (a.toNat : Int) * 16777216 + b.toNat * 65536 + c.toNat * 256) (by omega) (by omega), wrap_small (by omega) (by omega)]
theorem number_any (s : ByteArray) (w : World) (h : 4 ≤ s.size) : Calls Try.prog 39 #[.string s] w fun e w' => e = .returned (.int .i64 (numF s[0] s[1] s[2] s[3])) ∧ Below w.heap.size w w' := by
  have h00 : 0 < s.size := by omega
  have h0 : (0 : Int) < s.size := by omega
  have h1 : (1 : Int) < s.size := by omega
  have h2 : (2 : Int) < s.size := by omega
  have h3 : (3 : Int) < s.size := by omega
  go_enter Try.func39, Try.ntmps39
  go_wp2
  refine wp_region_still_lit (by kernel_rfl) (by kernel_rfl) ?_
  repeat still_step
  refine wpStill_nil ?_
  go_wp2
  go_ret
  refine ⟨?_, (Below.refl _ _).drew⟩
  rw [← num_raw]
  rfl
theorem or_join (a b : Nat) (hb : b < 256) : (256 * a) ||| b = 256 * a + b := by
  have := Nat.two_pow_add_eq_or_of_lt (i := 8) (b := b) (by omega) a
  rw [show (2 : Nat) ^ 8 = 256 from rfl] at this
  omega
theorem bits_or_i64_nat (a b : Nat) (ha : a < 1099511627776) (hb : b < 256) : bits .or .i64 ((256 * a : Nat) : Int) (b : Int) = ((256 * a + b : Nat) : Int) := by
  have h1 : (BitVec.ofInt 64 ((256 * a : Nat) : Int)).toNat = 256 * a := by
    rw [BitVec.ofInt_natCast, BitVec.toNat_ofNat]; exact Nat.mod_eq_of_lt (by omega)
  have h2 : (BitVec.ofInt 64 (b : Int)).toNat = b := by
    rw [BitVec.ofInt_natCast, BitVec.toNat_ofNat]; exact Nat.mod_eq_of_lt (by omega)
  show IntKind.i64.wrap ((BitVec.ofInt 64 ((256 * a : Nat) : Int) ||| BitVec.ofInt 64 (b : Int)).toNat : Int) = _
  rw [BitVec.toNat_or, h1, h2, or_join a b hb]
  rw [IntKind.wrap_i64]
  omega
theorem wrap64_small {x : Int} (h : 0 ≤ x) (h2 : x < 1152921504606846976) : wrap64 x = x := by
  unfold wrap64; omega
theorem bstep {x : Int} {a : Nat} (hx : x = (a : Int)) (ha : a < 1099511627776) (c : UInt8) : bits .or .i64 (wrap64 (x * 256)) (wrap64 (c.toNat : Int)) = ((256 * a + c.toNat : Nat) : Int) := by
  subst hx
  have hc := c.toNat_lt
  rw [wrap64_small (x := (c.toNat : Int)) (by omega) (by omega), wrap64_small (x := (a : Int) * 256) (by omega) (by omega), show (a : Int) * 256 = ((256 * a : Nat) : Int) by omega]
  exact bits_or_i64_nat a c.toNat ha (by omega)
theorem inum_raw (a b c d : UInt8) : bits .or .i64 (wrap64 (bits .or .i64 (wrap64 (bits .or .i64 (wrap64 (bits .or .i64 0 (wrap64 (a.toNat : Int)) * 256)) (wrap64 (b.toNat : Int)) * 256)) (wrap64 (c.toNat : Int)) * 256)) (wrap64 (d.toNat : Int)) = numF a b c d := by
  have ha := a.toNat_lt
  have hb := b.toNat_lt
  have hc := c.toNat_lt
  have hd := d.toNat_lt
  have e0 : bits .or .i64 0 (wrap64 (a.toNat : Int)) = (a.toNat : Int) := by
    have := bstep (x := 0) (a := 0) rfl (by omega) a
    simpa [wrap64] using this
  rw [bstep (bstep (bstep e0 (by omega) b) (by omega) c) (by omega) d]
  unfold numF
  omega
theorem inumber_any (s : ByteArray) (w : World) (h : 4 ≤ s.size) : Calls Try.prog 38 #[.string s] w fun e w' => e = .returned (.int .i64 (numF s[0] s[1] s[2] s[3])) ∧ w = w' := by
  have h00 : 0 < s.size := by omega
  have h0 : (0 : Int) < s.size := by omega
  have h1 : (1 : Int) < s.size := by omega
  have h2 : (2 : Int) < s.size := by omega
  have h3 : (3 : Int) < s.size := by omega
  go_enter Try.func38, Try.ntmps38
  go_wp2
  go_rounds 5
  go_ret
  refine ⟨?_, rfl⟩
  rw [← inum_raw]
  rfl
theorem idx7_0 (p0 p1 p2 p3 p4 p5 p6 : Option Addr) (w : World) : (Instr.index 55 (.agg #[.pointer p0, .pointer p1, .pointer p2, .pointer p3, .pointer p4, .pointer p5, .pointer p6]) (.int .i64 0)).run Try.prog w = .ok (.pointer p0) w := by
  simp [Instr.index, run_underlying Try.underlying55, asIntOf, go_sem]
theorem idx7_1 (p0 p1 p2 p3 p4 p5 p6 : Option Addr) (w : World) : (Instr.index 55 (.agg #[.pointer p0, .pointer p1, .pointer p2, .pointer p3, .pointer p4, .pointer p5, .pointer p6]) (.int .i64 1)).run Try.prog w = .ok (.pointer p1) w := by
  simp [Instr.index, run_underlying Try.underlying55, asIntOf, go_sem]
theorem idx7_2 (p0 p1 p2 p3 p4 p5 p6 : Option Addr) (w : World) : (Instr.index 55 (.agg #[.pointer p0, .pointer p1, .pointer p2, .pointer p3, .pointer p4, .pointer p5, .pointer p6]) (.int .i64 2)).run Try.prog w = .ok (.pointer p2) w := by
  simp [Instr.index, run_underlying Try.underlying55, asIntOf, go_sem]
theorem idx7_3 (p0 p1 p2 p3 p4 p5 p6 : Option Addr) (w : World) : (Instr.index 55 (.agg #[.pointer p0, .pointer p1, .pointer p2, .pointer p3, .pointer p4, .pointer p5, .pointer p6]) (.int .i64 3)).run Try.prog w = .ok (.pointer p3) w := by
  simp [Instr.index, run_underlying Try.underlying55, asIntOf, go_sem]
theorem idx7_4 (p0 p1 p2 p3 p4 p5 p6 : Option Addr) (w : World) : (Instr.index 55 (.agg #[.pointer p0, .pointer p1, .pointer p2, .pointer p3, .pointer p4, .pointer p5, .pointer p6]) (.int .i64 4)).run Try.prog w = .ok (.pointer p4) w := by
  simp [Instr.index, run_underlying Try.underlying55, asIntOf, go_sem]
theorem idx7_5 (p0 p1 p2 p3 p4 p5 p6 : Option Addr) (w : World) : (Instr.index 55 (.agg #[.pointer p0, .pointer p1, .pointer p2, .pointer p3, .pointer p4, .pointer p5, .pointer p6]) (.int .i64 5)).run Try.prog w = .ok (.pointer p5) w := by
  simp [Instr.index, run_underlying Try.underlying55, asIntOf, go_sem]
theorem idx7_6 (p0 p1 p2 p3 p4 p5 p6 : Option Addr) (w : World) : (Instr.index 55 (.agg #[.pointer p0, .pointer p1, .pointer p2, .pointer p3, .pointer p4, .pointer p5, .pointer p6]) (.int .i64 6)).run Try.prog w = .ok (.pointer p6) w := by
  simp [Instr.index, run_underlying Try.underlying55, asIntOf, go_sem]
theorem idx2_0 (p0 p1 : Option Addr) (w : World) : (Instr.index 62 (.agg #[.pointer p0, .pointer p1]) (.int .i64 0)).run Try.prog w = .ok (.pointer p0) w := by
  simp [Instr.index, run_underlying Try.underlying62, asIntOf, go_sem]
theorem idx2_1 (p0 p1 : Option Addr) (w : World) : (Instr.index 62 (.agg #[.pointer p0, .pointer p1]) (.int .i64 1)).run Try.prog w = .ok (.pointer p1) w := by
  simp [Instr.index, run_underlying Try.underlying62, asIntOf, go_sem]
def ByteRow (w : World) (base : Nat) (v : Value) (n : Nat) (l : List UInt8) : Prop := w.ownsRow base 5 1 v n (l.map B8)
theorem Try.info5 : (Try.prog.info? 5).map (fun i => (i.zero, i.size, i.bytes)) = some (some (.int .u8 0), 1, 1) := by kernel_rfl
theorem four_any (v : Value) (m : Nat) (l : List UInt8) (n : Int) (base : Nat) (w : World) (hl : m ≤ 1000) (hb : base ≤ w.heap.size) (h : w.ownsRow base 5 1 v m (l.map B8)) :
    Calls Try.prog 36 #[v, .int .i64 n] w fun e w' => ∃ v', e = .returned v' ∧ w'.ownsRow base 5 1 v' (m + 4) ((l ++ wordL n).map B8) ∧ Below base w w' := by
  obtain ⟨i0, hi, hz0, hz1, hz2⟩ := info_parts Try.info5
  go_enter Try.func36, Try.ntmps36
  go_wp2_with (at_builtin; refine wpList_append_own _ rfl (.tmp 5) (.tmp 17) 58 rfl base 5 i0 (.int .u8 0) 1 1 Try.underlying58 hi hz0 hz1 hz2 rfl (by decide) _ _ _ rfl (h.alloc _) ⟨w.heap.size, 0, none⟩ 4 4 [.int .u8 (n / 16777216 % 256), .int .u8 (n / 65536 % 256), .int .u8 (n / 256 % 256), .int .u8 (n % 256)] rfl rfl ?c1 ?c2 ?c3 ?c4 ?c5 ?_)
  case c1 =>
    intro j u hj
    match j, hj with
    | 0, hj => simp at hj; subst hj; simp [Addr.add]
    | 1, hj => simp at hj; subst hj; simp [Addr.add]
    | 2, hj => simp at hj; subst hj; simp [Addr.add]
    | 3, hj => simp at hj; subst hj; simp [Addr.add]
  case c2 =>
    intro u hu
    simp at hu
    rcases hu with rfl | rfl | rfl | rfl <;> rfl
  case c3 => unfold maxLen; omega
  case c4 => omega
  case c5 => simp; omega
  intro v' w6 hown' hgrow _
  have hb6 : Below base w w6 := ((Below.refl _ _).alloc hb _).grown hgrow (by simp; omega) (fun g hg => ownsRow_block h g hg)
  clear hgrow
  go_wp2
  go_ret
  refine ⟨_, rfl, ?_, hb6⟩
  rw [List.map_append, wordL_vals]
  exact hown'
end Go.Proofs.Ytochpjoanldfpaa
