/- Contracts of the sums and of the hash, by the program and by the document. -/
import Derived.Test.YtfpmoamecjenlaaBa
namespace Go.Proofs.Ytfpmoamecjenlaa
open Go.RowKit

/-- A sum, and a byte more. -/
def stepU (u c : Int) : Int := IntKind.u64.wrap (bits BinOp.xor IntKind.u64 u c * 1099511628211)
def sumL (u : Int) (l : List UInt8) : Int := l.foldl (fun u c => stepU u c.toNat) u
def start : Int := 14695981039346656037

theorem sumL_snoc (u : Int) (l : List UInt8) (c : UInt8) : sumL u (l ++ [c]) = stepU (sumL u l) c.toNat := by simp [sumL]
theorem sumL_append (u : Int) (l m : List UInt8) : sumL u (l ++ m) = sumL (sumL u l) m := by simp [sumL]

theorem on_any (u : Int) (c : UInt8) (w : World) :
    Calls Try.prog 28 #[.int .u64 u, .int .u8 c.toNat] w fun e w' => e = .returned (.int .u64 (stepU u c.toNat)) ∧ w = w' := by
  have hc : c.toNat < 256 := c.toNat_lt
  go_enter Try.func28, Try.ntmps28
  go_wp2
  go_ret
  exact ⟨rfl, rfl⟩

theorem sumS_any (u : Int) (s : ByteArray) (w : World) (hs : s.size ≤ maxLen) :
    Calls Try.prog 24 #[.int .u64 u, .string s] w fun e w' => e = .returned (.int .u64 (sumL u s.data.toList)) ∧ w = w' := by
  unfold maxLen at hs
  go_enter Try.func24, Try.ntmps24
  go_wp2
  go_loop [0, 8] (fun x i => ∃ k : Nat, k ≤ s.size ∧ i = .int .i64 k ∧ x = .int .u64 (sumL u (s.data.toList.take k))) (fun _ i => s.size - (intOf i).toNat)
  case atStart => exact ⟨0, Nat.zero_le _, rfl, rfl⟩
  case round =>
    obtain ⟨k, hk, rfl, rfl⟩ := hrel
    by_cases hlt : k < s.size
    · have hts := take_snoc s k hlt
      have HS := Lib.hid hts
      clear hts
      have hc : (s[k]).toNat < 256 := (s[k]).toNat_lt
      go_wp2
      go_round
      case rel => exact ⟨k + 1, by omega, by go_num, by rw [HS.out, sumL_snoc]; rfl⟩
      case measure => simp [intOf]; omega
    · go_wp2
      go_ret
      exact ⟨by rw [List.take_of_length_le (by simp; omega)]; rfl, rfl⟩

theorem from_any (u : Int) (s : ByteArray) (w : World) (hs : s.size ≤ maxLen) :
    Calls Try.prog 25 #[.int .u64 u, .string s] w fun e w' => e = .returned (.int .u64 (sumL u s.data.toList)) ∧ w = w' := by
  unfold maxLen at hs
  go_enter Try.func25, Try.ntmps25
  go_wp2
  go_loop [0, 5] (fun x i => ∃ k : Nat, k ≤ s.size ∧ i = .int .i64 k ∧ x = .int .u64 (sumL u (s.data.toList.take k))) (fun _ i => s.size - (intOf i).toNat)
  case atStart => exact ⟨0, Nat.zero_le _, rfl, rfl⟩
  case round =>
    obtain ⟨k, hk, rfl, rfl⟩ := hrel
    by_cases hlt : k < s.size
    · have hts := take_snoc s k hlt
      have HS := Lib.hid hts
      clear hts
      go_wp2_with fail
      refine (on_any _ _ _).mono ?_
      rintro e w' ⟨rfl, rfl⟩
      go_wp2
      go_round
      case rel => exact ⟨k + 1, by omega, by go_num, by rw [HS.out, sumL_snoc]⟩
      case measure => simp [intOf]; omega
    · go_wp2
      go_ret
      exact ⟨by rw [List.take_of_length_le (by simp; omega)]; rfl, rfl⟩

theorem sum_any (s : ByteArray) (w : World) (hs : s.size ≤ maxLen) :
    Calls Try.prog 14 #[.string s] w fun e w' => e = .returned (.int .u64 (sumL start s.data.toList)) ∧ w = w' := by
  go_enter Try.func14, Try.ntmps14
  go_wp2_with fail
  refine (sumS_any _ _ _ hs).mono ?_
  rintro e w' ⟨rfl, rfl⟩
  go_wp2
  go_ret
  exact ⟨rfl, rfl⟩
theorem sumR_any (s : ByteArray) (w : World) (hs : s.size ≤ maxLen) :
    Calls Try.prog 15 #[.string s] w fun e w' => e = .returned (.int .u64 (sumL start s.data.toList)) ∧ w = w' := by
  go_enter Try.func15, Try.ntmps15
  go_wp2_with fail
  refine (from_any _ _ _ hs).mono ?_
  rintro e w' ⟨rfl, rfl⟩
  go_wp2
  go_ret
  exact ⟨rfl, rfl⟩

theorem sumB_any (u : Int) (a : Option Addr) (len cap : Nat) (l : List UInt8) (w : World) (h : SliceAt w a len (l.map B8)) (hs : len ≤ maxLen) :
    Calls Try.prog 26 #[.int .u64 u, .slice a len cap] w fun e w' => e = .returned (.int .u64 (sumL u l)) ∧ w = w' := by
  unfold maxLen at hs
  have HR := Lib.hid h
  clear h
  go_enter Try.func26, Try.ntmps26
  go_wp2
  go_loop [0, 8] (fun x i => ∃ k : Nat, k ≤ len ∧ i = .int .i64 k ∧ x = .int .u64 (sumL u (l.take k))) (fun _ i => len - (intOf i).toNat)
  case atStart => exact ⟨0, Nat.zero_le _, rfl, rfl⟩
  case round =>
    obtain ⟨k, hk, rfl, rfl⟩ := hrel
    by_cases hlt : k < len
    · obtain ⟨b, off, rfl, hbs, hcell⟩ := HR.out.get k hlt
      have hkl : k < l.length := by have := HR.out.1; simp at this; omega
      obtain ⟨c, hc⟩ : ∃ c, c = l[k] := ⟨_, rfl⟩
      have hck : w.cell? ⟨b, off + k, none⟩ = some (.int .u8 c.toNat) := by rw [hcell, hc]; simp [hkl, B8]
      have HS := Lib.hid (show l.take (k + 1) = l.take k ++ [c] by rw [hc, List.take_succ_eq_append_getElem hkl])
      clear hcell hc hkl
      have hc2 : c.toNat < 256 := c.toNat_lt
      go_wp2
      go_round
      case rel => exact ⟨k + 1, by omega, by go_num, by rw [HS.out, sumL_snoc]; rfl⟩
      case measure => simp [intOf]; omega
    · go_wp2
      go_ret
      exact ⟨by rw [List.take_of_length_le (by have := HR.out.1; simp at this; omega)]; rfl, rfl⟩

/-- A hash: the cell that has its sum. -/
theorem new_any (w : World) : Calls Try.prog 23 #[] w fun e w' => e = .returned (.pointer (some ⟨w.heap.size, 0, none⟩)) ∧ w.alloc (.cells #[.int .u64 start] 48) = w' := by
  go_enter Try.func23, Try.ntmps23
  go_wp2
  go_ret
  exact ⟨rfl, rfl⟩
theorem hsum_nil (w : World) : Calls Try.prog 22 #[.pointer none] w fun e w' => e = .returned (.int .u64 start) ∧ w = w' := by
  go_enter Try.func22, Try.ntmps22
  go_wp2
  go_ret
  exact ⟨rfl, rfl⟩
theorem hsum_any (b : Nat) (u : Int) (w : World) (h : w.cell? ⟨b, 0, none⟩ = some (.int .u64 u)) : Calls Try.prog 22 #[.pointer (some ⟨b, 0, none⟩)] w fun e w' => e = .returned (.int .u64 u) ∧ w = w' := by
  go_enter Try.func22, Try.ntmps22
  go_wp2
  go_ret
  exact ⟨rfl, rfl⟩
theorem hcopy_nil (w : World) : Calls Try.prog 21 #[.pointer none] w fun e w' => e = .returned (.pointer none) ∧ w = w' := by
  go_enter Try.func21, Try.ntmps21
  go_wp2
  go_ret
  exact ⟨rfl, rfl⟩
theorem hcopy_any (b : Nat) (u : Int) (w : World) (h : w.cell? ⟨b, 0, none⟩ = some (.int .u64 u)) :
    Calls Try.prog 21 #[.pointer (some ⟨b, 0, none⟩)] w fun e w' => e = .returned (.pointer (some ⟨w.heap.size, 0, none⟩)) ∧ w.alloc (.cells #[.int .u64 u] 48) = w' := by
  go_enter Try.func21, Try.ntmps21
  go_wp2
  go_ret
  exact ⟨rfl, rfl⟩
theorem hwrite_nil (a : Option Addr) (len cap : Nat) (w : World) : Calls Try.prog 20 #[.pointer none, .slice a len cap] w fun e w' => e = .returned (.tuple #[]) ∧ w = w' := by
  go_enter Try.func20, Try.ntmps20
  go_wp2
  go_end0
  exact ⟨rfl, rfl⟩
theorem hwrite_any (b : Nat) (u : Int) (a : Option Addr) (len cap : Nat) (l : List UInt8) (w : World) (hc : w.cell? ⟨b, 0, none⟩ = some (.int .u64 u)) (hf : w.frozen? ⟨b, 0, none⟩ = false) (h : SliceAt w a len (l.map B8)) (hs : len ≤ maxLen) :
    Calls Try.prog 20 #[.pointer (some ⟨b, 0, none⟩), .slice a len cap] w fun e w' => e = .returned (.tuple #[]) ∧ w.setCell ⟨b, 0, none⟩ (.int .u64 (sumL u l)) = w' := by
  have HR := Lib.hid h
  clear h
  go_enter Try.func20, Try.ntmps20
  go_wp2_with fail
  refine (sumB_any u a len cap l _ HR.out hs).mono ?_
  rintro e w' ⟨rfl, rfl⟩
  go_wp2
  go_end0
  exact ⟨rfl, rfl⟩
end Go.Proofs.Ytfpmoamecjenlaa
