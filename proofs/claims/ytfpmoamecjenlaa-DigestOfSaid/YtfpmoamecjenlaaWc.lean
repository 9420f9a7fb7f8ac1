/- Contracts of Text, by the program and by the document. -/
import Derived.Test.YtfpmoamecjenlaaWb
namespace Go.Proofs.Ytfpmoamecjenlaa
open Go.RowKit

/-- The digit of a number below 16, and the number's digits. -/
def hexc (n : Int) : UInt8 := if n < 10 then UInt8.ofNat (48 + n.toNat) else UInt8.ofNat (87 + n.toNat)
def nib (u : Int) (k : Nat) : Int := bits .and .u64 (u / 2 ^ (4 * k)) 15
def textL (u : Int) : List UInt8 := (List.range 16).map fun j => hexc (nib u (15 - j))

theorem and15 (x : Int) (h0 : 0 ≤ x) (h1 : x < 18446744073709551616) : bits .and .u64 x 15 = x % 16 :=
  bits_mask .u64 64 (by decide) (fun n h0 h1 => by simp [IntKind.wrap, IntKind.bits, IntKind.signed]; omega) 4 (by decide) x h0 h1

theorem shr_range (u : Int) (h0 : 0 ≤ u) (h1 : u < 18446744073709551616) (n : Nat) : 0 ≤ u / 2 ^ n ∧ u / 2 ^ n < 18446744073709551616 := by
  have hp : (0 : Int) < 2 ^ n := Int.pow_pos (by omega)
  refine ⟨Int.ediv_nonneg h0 (Int.le_of_lt hp), ?_⟩
  have := Int.ediv_le_self (2 ^ n) h0
  omega
theorem nib_eq (u : Int) (h0 : 0 ≤ u) (h1 : u < 18446744073709551616) (k : Nat) : nib u k = u / 2 ^ (4 * k) % 16 :=
  and15 _ (shr_range u h0 h1 _).1 (shr_range u h0 h1 _).2
theorem nib_range (u : Int) (h0 : 0 ≤ u) (h1 : u < 18446744073709551616) (k : Nat) : 0 ≤ nib u k ∧ nib u k < 16 := by
  rw [nib_eq u h0 h1]; omega

theorem hex_index (n : Int) (h0 : 0 ≤ n) (h1 : n < 16) (w : World) : (Instr.index 9 (.string ⟨#[48, 49, 50, 51, 52, 53, 54, 55, 56, 57, 97, 98, 99, 100, 101, 102]⟩) (.int .u64 n)).run Try.prog w = .ok (B8 (hexc n)) w := by
  have : n = 0 ∨ n = 1 ∨ n = 2 ∨ n = 3 ∨ n = 4 ∨ n = 5 ∨ n = 6 ∨ n = 7 ∨ n = 8 ∨ n = 9 ∨ n = 10 ∨ n = 11 ∨ n = 12 ∨ n = 13 ∨ n = 14 ∨ n = 15 := by omega
  rcases this with rfl | rfl | rfl | rfl | rfl | rfl | rfl | rfl | rfl | rfl | rfl | rfl | rfl | rfl | rfl | rfl <;> (clear h0 h1; exact rfl)

def rowT (u : Int) (k : Nat) : List Value := (List.range 16).map fun j => if 16 ≤ j + k then B8 (hexc (nib u (15 - j))) else .int .u8 0

theorem rowT_zero (u : Int) : rowT u 0 = List.replicate 16 (.int .u8 0) := by
  apply List.ext_getElem
  · simp [rowT]
  · intro i h1 h2
    have : i < 16 := by simpa [rowT] using h1
    rw [List.getElem_replicate]
    simp only [rowT, List.getElem_map, List.getElem_range]
    rw [if_neg (by omega)]
theorem rowT_set (u : Int) (k : Nat) (hk : k < 16) : (rowT u k).set (15 - k) (B8 (hexc (nib u k))) = rowT u (k + 1) := by
  apply List.ext_getElem
  · simp [rowT]
  · intro i h1 h2
    have hi : i < 16 := by simpa [rowT] using h1
    rw [List.getElem_set]
    by_cases e : 15 - k = i
    · subst e
      have : 15 - (15 - k) = k := by omega
      simp [rowT, this]; omega
    · rw [if_neg e]
      simp only [rowT, List.getElem_map, List.getElem_range]
      by_cases h : 16 ≤ i + k
      · rw [if_pos h, if_pos (by omega)]
      · rw [if_neg h, if_neg (by omega)]
theorem rowT_full (u : Int) : rowT u 16 = (textL u).map B8 := by
  unfold rowT textL
  rw [List.map_map]
  apply List.map_congr_left
  intro j _
  simp

set_option maxHeartbeats 1000000 in
theorem text_any (u : Int) (h0 : 0 ≤ u) (h1 : u < 18446744073709551616) (w : World) :
    Calls Try.prog 18 #[.int .u64 u] w fun e w' => e = .returned (.string ⟨(textL u).toArray⟩) ∧ Below w.heap.size w w' := by
  go_enter Try.func18, Try.ntmps18
  go_wp2
  go_loopw [5] (fun i wr => ∃ k : Nat, k ≤ 16 ∧ i = .int .i64 k ∧ RowAt wr w.heap.size 46 (rowT u k) ∧ Below w.heap.size w wr) (fun i _ => 16 - (intOf i).toNat)
  case atStart => exact ⟨0, by omega, rfl, by rw [rowT_zero]; exact RowAt.new w 46 (List.replicate 16 (.int .u8 0)), bA (Below.refl _ _) _⟩
  case round =>
    obtain ⟨k, hk, rfl, hr, hb⟩ := hrel
    by_cases hlt : k < 16
    · have hc : ∃ v, wr.cell? ⟨w.heap.size, 15 - k, none⟩ = some v := ⟨_, by rw [hr.cell]; exact List.getElem?_eq_getElem (by simp [rowT]; omega)⟩
      obtain ⟨v, hc⟩ := hc
      have hf := hr.free (15 - k)
      have hn := nib_range u h0 h1 k
      have hidx := hex_index (bits .and .u64 (u / 2 ^ (4 * k)) 15) hn.1 hn.2
      unfold B8 at hidx
      clear hn
      go_wp2
      go_roundw
      case rel => exact ⟨k + 1, by omega, by go_num, by rw [← rowT_set u k hlt]; exact hr.set _ _, hb.setCell (Nat.le_refl _) _⟩
      case measure => simp [intOf]; omega
    · obtain rfl : k = 16 := by omega
      rw [rowT_full] at hr
      have hconv := run_string_of_slice (P := Try.prog) wr 35 5 9 Try.underlying35 Try.underlying5 Try.underlying9 (some ⟨w.heap.size, 0, none⟩) 16 16 (textL u) (by simpa [textL] using SliceAt.row hr)
      clear hr
      go_wp2
      go_ret
      exact ⟨rfl, hb⟩

theorem text_drop (u : Int) (k : Nat) (hk : k < 16) : (textL u).drop (15 - k) = hexc (nib u k) :: (textL u).drop (16 - k) := by
  rw [List.drop_eq_getElem_cons (by simp [textL]; omega)]
  congr 1
  · simp only [textL, List.getElem_map, List.getElem_range]
    congr 2; omega
  · congr 1; omega
theorem div_step (u : Int) (k : Nat) : u / 2 ^ (4 * k) / 16 = u / 2 ^ (4 * (k + 1)) := by
  rw [Int.ediv_ediv_of_nonneg (Int.le_of_lt (Int.pow_pos (by omega))), Nat.mul_add, Int.pow_add]; rfl

theorem one_conv (c : UInt8) (w : World) : (convert 35 9 (.slice (some ⟨w.heap.size, 0, none⟩) 1 1)).run Try.prog (w.alloc (.cells #[.int .u8 c.toNat] 5)) = .ok (.string ⟨#[c]⟩) (w.alloc (.cells #[.int .u8 c.toNat] 5)) :=
  run_string_of_slice (P := Try.prog) _ 35 5 9 Try.underlying35 Try.underlying5 Try.underlying9 (some ⟨w.heap.size, 0, none⟩) 1 1 [c] (SliceAt.row (RowAt.new w 5 [B8 c]))

theorem hexc_lo (d : Int) (h0 : 0 ≤ d) (h : d ≤ 9) : ((hexc d).toNat : Int) = 48 + d := by
  unfold hexc; rw [if_pos (by omega)]
  have : (UInt8.ofNat (48 + d.toNat)).toNat = 48 + d.toNat := by simp [UInt8.toNat_ofNat']; omega
  omega
theorem hexc_hi (d : Int) (h0 : 9 < d) (h : d < 16) : ((hexc d).toNat : Int) = 87 + d := by
  unfold hexc; rw [if_neg (by omega)]
  have : (UInt8.ofNat (87 + d.toNat)).toNat = 87 + d.toNat := by simp [UInt8.toNat_ofNat']; omega
  omega

set_option maxHeartbeats 1000000 in
theorem textR_any (u : Int) (h0 : 0 ≤ u) (h1 : u < 18446744073709551616) (w : World) :
    Calls Try.prog 19 #[.int .u64 u] w fun e w' => e = .returned (.string ⟨(textL u).toArray⟩) ∧ Below w.heap.size w w' := by
  go_enter Try.func19, Try.ntmps19
  go_wp2
  go_loopw [0, 3, 4] (fun x s i wr => ∃ k : Nat, k ≤ 16 ∧ i = .int .i64 k ∧ x = .int .u64 (u / 2 ^ (4 * k)) ∧ s = .string ⟨((textL u).drop (16 - k)).toArray⟩ ∧ Below w.heap.size w wr) (fun _ _ i _ => 16 - (intOf i).toNat)
  case atStart => exact ⟨0, by omega, rfl, by simp, by simp [textL], Below.refl _ _⟩
  case round =>
    obtain ⟨k, hk, rfl, rfl, rfl, hb⟩ := hrel
    by_cases hlt : k < 16
    · have hn := nib_range u h0 h1 k
      obtain ⟨d, hd⟩ : ∃ d, nib u k = d := ⟨_, rfl⟩
      rw [hd] at hn
      have hd' : bits .and .u64 (u / 2 ^ (4 * k)) 15 = d := hd
      have HD := Lib.hid hd
      clear hd
      have hd0 := hn.1
      have hd1 := hn.2
      clear hn
      have hx := shr_range u h0 h1 (4 * k)
      obtain ⟨l, hl⟩ : ∃ l, (textL u).drop (16 - k) = l := ⟨_, rfl⟩
      have hll : l.length ≤ 16 := by rw [← hl]; simp [textL]
      rw [hl]
      have HL := Lib.hid hl
      clear hl
      obtain ⟨x, hxe⟩ : ∃ x, u / 2 ^ (4 * k) = x := ⟨_, rfl⟩
      rw [hxe] at hd' hx ⊢
      have HX := Lib.hid hxe
      clear hxe
      have hx0 := hx.1
      have hx1 := hx.2
      clear hx
      by_cases hd9 : d ≤ 9
      · have hcv : ∀ w : World, (convert 35 9 (.slice (some ⟨w.heap.size, 0, none⟩) 1 1)).run Try.prog (w.alloc (.cells #[.int .u8 (48 + d)] 5)) = .ok (.string ⟨#[hexc d]⟩) (w.alloc (.cells #[.int .u8 (48 + d)] 5)) := by
          intro w; rw [← hexc_lo d hd0 hd9]; exact one_conv _ w
        go_wp2
        go_roundw
        case rel => exact ⟨k + 1, by omega, by go_num, by rw [← HX.out, ← div_step], by rw [show 16 - (k + 1) = 15 - k from by omega, text_drop u k hlt, HD.out, HL.out]; simp [ByteArray.mk_append_mk], bA hb _⟩
        case measure => simp [intOf]; omega
      · have hcv : ∀ w : World, (convert 35 9 (.slice (some ⟨w.heap.size, 0, none⟩) 1 1)).run Try.prog (w.alloc (.cells #[.int .u8 (97 + d - 10)] 5)) = .ok (.string ⟨#[hexc d]⟩) (w.alloc (.cells #[.int .u8 (97 + d - 10)] 5)) := by
          intro w; rw [show 97 + d - 10 = 87 + d from by omega, ← hexc_hi d (by omega) hd1]; exact one_conv _ w
        go_wp2
        go_roundw
        case rel => exact ⟨k + 1, by omega, by go_num, by rw [← HX.out, ← div_step], by rw [show 16 - (k + 1) = 15 - k from by omega, text_drop u k hlt, HD.out, HL.out]; simp [ByteArray.mk_append_mk], bA hb _⟩
        case measure => simp [intOf]; omega
    · obtain rfl : k = 16 := by omega
      go_wp2
      go_ret
      exact ⟨by simp, hb⟩
end Go.Proofs.Ytfpmoamecjenlaa
