/- Contracts of the sums of parts, by the program and by the document. -/
import Derived.Test.YtkcebbidmlnmmaaDoorBa
namespace Go.Proofs.YtkcebbidmlnmmaaDoor
open Go.RowKit

/-- A sum, and a byte more. -/
def stepU (u c : Int) : Int := IntKind.u64.wrap (bits BinOp.xor IntKind.u64 u c * 1099511628211)
def sumL (u : Int) (l : List UInt8) : Int := l.foldl (fun u c => stepU u c.toNat) u
def start : Int := 14695981039346656037

theorem sumL_snoc (u : Int) (l : List UInt8) (c : UInt8) : sumL u (l ++ [c]) = stepU (sumL u l) c.toNat := by simp [sumL]
theorem sumL_append (u : Int) (l m : List UInt8) : sumL u (l ++ m) = sumL (sumL u l) m := by simp [sumL]

theorem on_any (u : Int) (c : UInt8) (w : World) :
    Calls Tryd.prog 47 #[.int .u64 u, .int .u8 c.toNat] w fun e w' => e = .returned (.int .u64 (stepU u c.toNat)) ∧ w = w' := by
  have hc : c.toNat < 256 := c.toNat_lt
  go_enter Tryd.func47, Tryd.ntmps47
  go_wp2
  go_ret
  exact ⟨rfl, rfl⟩

theorem sumS_any (u : Int) (s : ByteArray) (w : World) (hs : s.size ≤ maxLen) :
    Calls Tryd.prog 39 #[.int .u64 u, .string s] w fun e w' => e = .returned (.int .u64 (sumL u s.data.toList)) ∧ w = w' := by
  unfold maxLen at hs
  go_enter Tryd.func39, Tryd.ntmps39
  go_wp2
  go_loop [0, 8] (fun x i => ∃ k : Nat, k ≤ s.size ∧ i = .int .i64 k ∧ x = .int .u64 (sumL u (s.data.toList.take k))) (fun _ i => s.size - (intOf i).toNat)
  case atStart => exact ⟨0, Nat.zero_le _, rfl, rfl⟩
  case round =>
    obtain ⟨k, hk, rfl, rfl⟩ := hrel
    by_cases hlt : k < s.size
    · have hts := take_snoc s k hlt
      have HS := Lib.hid hts
      clear hts
      have hc : (s[k]).toNat < 256 := (s[k]).toNat_lt
      go_wp2
      go_round
      case rel => exact ⟨k + 1, by omega, by go_num, by rw [HS.out, sumL_snoc]; rfl⟩
      case measure => simp [intOf]; omega
    · go_wp2
      go_ret
      exact ⟨by rw [List.take_of_length_le (by simp; omega)]; rfl, rfl⟩

theorem from_any (u : Int) (s : ByteArray) (w : World) (hs : s.size ≤ maxLen) :
    Calls Tryd.prog 42 #[.int .u64 u, .string s] w fun e w' => e = .returned (.int .u64 (sumL u s.data.toList)) ∧ w = w' := by
  unfold maxLen at hs
  go_enter Tryd.func42, Tryd.ntmps42
  go_wp2
  go_loop [0, 5] (fun x i => ∃ k : Nat, k ≤ s.size ∧ i = .int .i64 k ∧ x = .int .u64 (sumL u (s.data.toList.take k))) (fun _ i => s.size - (intOf i).toNat)
  case atStart => exact ⟨0, Nat.zero_le _, rfl, rfl⟩
  case round =>
    obtain ⟨k, hk, rfl, rfl⟩ := hrel
    by_cases hlt : k < s.size
    · have hts := take_snoc s k hlt
      have HS := Lib.hid hts
      clear hts
      go_wp2_with fail
      refine (on_any _ _ _).mono ?_
      rintro e w' ⟨rfl, rfl⟩
      go_wp2
      go_round
      case rel => exact ⟨k + 1, by omega, by go_num, by rw [HS.out, sumL_snoc]⟩
      case measure => simp [intOf]; omega
    · go_wp2
      go_ret
      exact ⟨by rw [List.take_of_length_le (by simp; omega)]; rfl, rfl⟩

theorem sumB_any (u : Int) (a : Option Addr) (len cap : Nat) (l : List UInt8) (w : World) (h : SliceAt w a len (l.map B8)) (hs : len ≤ maxLen) :
    Calls Tryd.prog 40 #[.int .u64 u, .slice a len cap] w fun e w' => e = .returned (.int .u64 (sumL u l)) ∧ w = w' := by
  unfold maxLen at hs
  have HR := Lib.hid h
  clear h
  go_enter Tryd.func40, Tryd.ntmps40
  go_wp2
  go_loop [0, 8] (fun x i => ∃ k : Nat, k ≤ len ∧ i = .int .i64 k ∧ x = .int .u64 (sumL u (l.take k))) (fun _ i => len - (intOf i).toNat)
  case atStart => exact ⟨0, Nat.zero_le _, rfl, rfl⟩
  case round =>
    obtain ⟨k, hk, rfl, rfl⟩ := hrel
    by_cases hlt : k < len
    · obtain ⟨b, off, rfl, hbs, hcell⟩ := HR.out.get k hlt
      have hkl : k < l.length := by have := HR.out.1; simp at this; omega
      obtain ⟨c, hc⟩ : ∃ c, c = l[k] := ⟨_, rfl⟩
      have hck : w.cell? ⟨b, off + k, none⟩ = some (.int .u8 c.toNat) := by rw [hcell, hc]; simp [hkl, B8]
      have HS := Lib.hid (show l.take (k + 1) = l.take k ++ [c] by rw [hc, List.take_succ_eq_append_getElem hkl])
      clear hcell hc hkl
      have hc2 : c.toNat < 256 := c.toNat_lt
      go_wp2
      go_round
      case rel => exact ⟨k + 1, by omega, by go_num, by rw [HS.out, sumL_snoc]; rfl⟩
      case measure => simp [intOf]; omega
    · go_wp2
      go_ret
      exact ⟨by rw [List.take_of_length_le (by have := HR.out.1; simp at this; omega)]; rfl, rfl⟩

def byt (x : Int) : UInt8 := UInt8.ofNat (x % 256).toNat
def be8 (n : Int) : List UInt8 := (List.range 8).map fun j => byt (n / 2 ^ (8 * (7 - j)))
theorem byt_val (x : Int) : ((byt x).toNat : Int) = x % 256 := by
  unfold byt
  have : (UInt8.ofNat (x % 256).toNat).toNat = (x % 256).toNat := by simp [UInt8.toNat_ofNat']; omega
  omega
theorem B8_byt (x : Int) : B8 (byt x) = .int .u8 (x % 256) := by unfold B8; rw [byt_val]

/-- The first k bytes are laid. -/
def rowF (u : Int) (k : Nat) : List Value := (List.range 8).map fun j => if j < k then B8 (byt (u / 2 ^ (8 * (7 - j)))) else .int .u8 0
theorem rowF_zero (u : Int) : rowF u 0 = List.replicate 8 (.int .u8 0) := by
  apply List.ext_getElem
  · simp [rowF]
  · intro i h1 h2
    rw [List.getElem_replicate]
    simp only [rowF, List.getElem_map, List.getElem_range]
    rw [if_neg (by omega)]
theorem rowF_set (u : Int) (k : Nat) : (rowF u k).set k (B8 (byt (u / 2 ^ (8 * (7 - k))))) = rowF u (k + 1) := by
  apply List.ext_getElem
  · simp [rowF]
  · intro i h1 h2
    rw [List.getElem_set]
    by_cases e : k = i
    · subst e; simp [rowF]
    · rw [if_neg e]
      simp only [rowF, List.getElem_map, List.getElem_range]
      by_cases h : i < k
      · rw [if_pos h, if_pos (by omega)]
      · rw [if_neg h, if_neg (by omega)]
theorem rowF_full (u : Int) : rowF u 8 = (be8 u).map B8 := by
  unfold rowF be8
  rw [List.map_map]
  apply List.map_congr_left
  intro j hj
  have : j < 8 := by simpa using hj
  simp [this]
/-- The last k bytes are laid. -/
def rowE (u : Int) (k : Nat) : List Value := (List.range 8).map fun j => if 8 ≤ j + k then B8 (byt (u / 2 ^ (8 * (7 - j)))) else .int .u8 0
theorem rowE_zero (u : Int) : rowE u 0 = List.replicate 8 (.int .u8 0) := by
  apply List.ext_getElem
  · simp [rowE]
  · intro i h1 h2
    have : i < 8 := by simpa [rowE] using h1
    rw [List.getElem_replicate]
    simp only [rowE, List.getElem_map, List.getElem_range]
    rw [if_neg (by omega)]
theorem rowE_set (u : Int) (k : Nat) (hk : k < 8) : (rowE u k).set (7 - k) (B8 (byt (u / 2 ^ (8 * k)))) = rowE u (k + 1) := by
  apply List.ext_getElem
  · simp [rowE]
  · intro i h1 h2
    have hi : i < 8 := by simpa [rowE] using h1
    rw [List.getElem_set]
    by_cases e : 7 - k = i
    · subst e
      have : 7 - (7 - k) = k := by omega
      simp [rowE, this]; omega
    · rw [if_neg e]
      simp only [rowE, List.getElem_map, List.getElem_range]
      by_cases h : 8 ≤ i + k
      · rw [if_pos h, if_pos (by omega)]
      · rw [if_neg h, if_neg (by omega)]
theorem rowE_full (u : Int) : rowE u 8 = (be8 u).map B8 := by
  unfold rowE be8
  rw [List.map_map]
  apply List.map_congr_left
  intro j _
  simp

theorem make8 (w : World) : (Instr.makeSlice 30 (.int .i64 8) (.int .i64 8)).run Tryd.prog w = .ok (.slice (some ⟨w.heap.size, 0, none⟩) 8 8) (w.alloc (.cells #[.int .u8 0, .int .u8 0, .int .u8 0, .int .u8 0, .int .u8 0, .int .u8 0, .int .u8 0, .int .u8 0] 5)) := by kernel_rfl
set_option maxHeartbeats 1000000 in
theorem long_any (u : Int) (w : World) :
    Calls Tryd.prog 43 #[.int .u64 u] w fun e w' => e = .returned (.string ⟨(be8 u).toArray⟩) ∧ Below w.heap.size w w' := by
  have hmk := make8
  go_enter Tryd.func43, Tryd.ntmps43
  go_wp2
  go_loopw [4] (fun i wr => ∃ k : Nat, k ≤ 8 ∧ i = .int .i64 k ∧ RowAt wr w.heap.size 5 (rowF u k) ∧ Below w.heap.size w wr) (fun i _ => 8 - (intOf i).toNat)
  case atStart => exact ⟨0, by omega, rfl, by rw [rowF_zero]; exact RowAt.new w 5 (List.replicate 8 (.int .u8 0)), bA (Below.refl _ _) _⟩
  case round =>
    obtain ⟨k, hk, rfl, hr, hb⟩ := hrel
    by_cases hlt : k < 8
    · have hc : ∃ v, wr.cell? ⟨w.heap.size, k, none⟩ = some v := ⟨_, by rw [hr.cell]; exact List.getElem?_eq_getElem (by simp [rowF]; omega)⟩
      obtain ⟨v, hc⟩ := hc
      have hf := hr.free k
      go_wp2
      go_roundw
      case rel =>
        refine ⟨k + 1, by omega, by go_num, ?_, hb.setCell (Nat.le_refl _) _⟩
        rw [← rowF_set u k, B8_byt, show 8 * (7 - k) = 56 - 8 * k from by omega]
        exact hr.set _ _
      case measure => simp [intOf]; omega
    · obtain rfl : k = 8 := by omega
      rw [rowF_full] at hr
      have hconv := run_string_of_slice (P := Tryd.prog) wr 30 5 9 Tryd.underlying30 Tryd.underlying5 Tryd.underlying9 (some ⟨w.heap.size, 0, none⟩) 8 8 (be8 u) (by simpa [be8] using SliceAt.row hr)
      clear hr
      go_wp2
      go_ret
      exact ⟨rfl, hb⟩

/-- The sum of parts. -/
def ofL (u : Int) (ps : List ByteArray) : Int := ps.foldl (fun u p => sumL (sumL u (be8 p.size)) p.data.toList) u
theorem ofL_snoc (u : Int) (l : List ByteArray) (p : ByteArray) : ofL u (l ++ [p]) = sumL (sumL (ofL u l) (be8 p.size)) p.data.toList := by simp [ofL]

set_option maxHeartbeats 2000000 in
theorem of_any (a : Option Addr) (len cap : Nat) (ps : List ByteArray) (w : World) (h : SliceAt w a len (ps.map Value.string)) (hs : len ≤ maxLen) (hp : ∀ p ∈ ps, p.size ≤ maxLen) :
    Calls Tryd.prog 25 #[.slice a len cap] w fun e w' => e = .returned (.int .u64 (ofL start ps)) ∧ Below w.heap.size w w' := by
  unfold maxLen at hs
  have HR := Lib.hid h
  have HP := Lib.hid hp
  clear h hp
  go_enter Tryd.func25, Tryd.ntmps25
  go_wp2
  go_loopw [3, 10] (fun x i wr => ∃ k : Nat, k ≤ len ∧ i = .int .i64 k ∧ x = .int .u64 (ofL start (ps.take k)) ∧ Below w.heap.size w wr) (fun _ i _ => len - (intOf i).toNat)
  case atStart => exact ⟨0, Nat.zero_le _, rfl, rfl, Below.refl _ _⟩
  case round =>
    obtain ⟨k, hk, rfl, rfl, hb⟩ := hrel
    by_cases hlt : k < len
    · obtain ⟨b, off, rfl, hbs, hcell⟩ := HR.out.get k hlt
      have hkl : k < ps.length := by have := HR.out.1; simp at this; omega
      obtain ⟨p, hpe⟩ : ∃ p, p = ps[k] := ⟨_, rfl⟩
      have hck : wr.cell? ⟨b, off + k, none⟩ = some (.string p) := by rw [hb.cell hbs, hcell, hpe]; simp [hkl]
      have hpm : p.size ≤ maxLen := HP.out p (by rw [hpe]; exact List.getElem_mem _)
      have HPM := Lib.hid hpm
      have hps : p.size ≤ 9223372036854775807 := hpm
      have HS := Lib.hid (show ps.take (k + 1) = ps.take k ++ [p] by rw [hpe, List.take_succ_eq_append_getElem hkl])
      clear hcell hpe hkl hpm
      obtain ⟨wo, rfl⟩ : ∃ wo : World, wo = wr := ⟨_, rfl⟩
      obtain ⟨u, hu⟩ : ∃ u, u = ofL start (ps.take k) := ⟨_, rfl⟩
      rw [← hu]
      have HU := Lib.hid hu
      clear hu
      go_wp2
      go_loopw [14] (fun i wr => ∃ m : Nat, m ≤ 8 ∧ i = .int .i64 m ∧ RowAt wr wo.heap.size 68 (rowE p.size m) ∧ Below wo.heap.size wo wr) (fun i _ => 8 - (intOf i).toNat)
      case atStart => exact ⟨0, by omega, rfl, by rw [rowE_zero]; exact RowAt.new wo 68 (List.replicate 8 (.int .u8 0)), bA (Below.refl _ _) _⟩
      case round =>
        obtain ⟨m, hm, rfl, hr, hb2⟩ := hrel
        by_cases hmt : m < 8
        · have hc : ∃ v, wr.cell? ⟨wo.heap.size, 7 - m, none⟩ = some v := ⟨_, by rw [hr.cell]; exact List.getElem?_eq_getElem (by simp [rowE]; omega)⟩
          obtain ⟨v, hc⟩ := hc
          have hf := hr.free (7 - m)
          clear hck
          go_wp2
          go_roundw
          case rel =>
            refine ⟨m + 1, by omega, by go_num, ?_, hb2.setCell (Nat.le_refl _) _⟩
            rw [← rowE_set p.size m hmt, B8_byt]
            exact hr.set _ _
          case measure => simp [intOf]; omega
        · obtain rfl : m = 8 := by omega
          rw [rowE_full] at hr
          have hsl : SliceAt wr (some ⟨wo.heap.size, 0, none⟩) 8 ((be8 p.size).map B8) := by simpa [be8] using SliceAt.row hr
          have HSL := Lib.hid hsl
          clear hsl hr hck
          go_wp2_with fail
          refine (sumB_any _ _ 8 8 (be8 p.size) _ HSL.out (by unfold maxLen; omega)).mono ?_
          rintro e w' ⟨rfl, rfl⟩
          go_wp2_with fail
          refine (sumS_any _ _ _ HPM.out).mono ?_
          rintro e w' ⟨rfl, rfl⟩
          go_wp2
          go_roundw
          case rel => exact ⟨k + 1, by omega, by go_num, by rw [HS.out, ofL_snoc, ← HU.out], hb.trans (hb2.mono hb.size)⟩
          case measure => simp [intOf]; omega
    · go_wp2
      go_ret
      exact ⟨by rw [List.take_of_length_le (by have := HR.out.1; simp at this; omega)]; rfl, hb⟩

theorem be8_size (n : Int) : (⟨(be8 n).toArray⟩ : ByteArray).size ≤ maxLen := by simp [be8, ByteArray.size, maxLen]

set_option maxHeartbeats 2000000 in
theorem ofR_any (a : Option Addr) (len cap : Nat) (ps : List ByteArray) (w : World) (h : SliceAt w a len (ps.map Value.string)) (hs : len ≤ maxLen) (hp : ∀ p ∈ ps, p.size ≤ maxLen) :
    Calls Tryd.prog 27 #[.slice a len cap] w fun e w' => e = .returned (.int .u64 (ofL start ps)) ∧ Below w.heap.size w w' := by
  unfold maxLen at hs
  have HR := Lib.hid h
  have HP := Lib.hid hp
  clear h hp
  go_enter Tryd.func27, Tryd.ntmps27
  go_wp2
  go_loopw [3, 4] (fun x i wr => ∃ k : Nat, k ≤ len ∧ i = .int .i64 k ∧ x = .int .u64 (ofL start (ps.take k)) ∧ Below w.heap.size w wr) (fun _ i _ => len - (intOf i).toNat)
  case atStart => exact ⟨0, Nat.zero_le _, rfl, rfl, Below.refl _ _⟩
  case round =>
    obtain ⟨k, hk, rfl, rfl, hb⟩ := hrel
    by_cases hlt : k < len
    · obtain ⟨b, off, rfl, hbs, hcell⟩ := HR.out.get k hlt
      have hkl : k < ps.length := by have := HR.out.1; simp at this; omega
      obtain ⟨p, hpe⟩ : ∃ p, p = ps[k] := ⟨_, rfl⟩
      have hbw : b < wr.heap.size := Nat.lt_of_lt_of_le hbs hb.size
      have hck : ∀ x : Bw wr.heap.size wr, x.val.cell? ⟨b, off + k, none⟩ = some (.string p) := by intro x; rw [x.ok.cell hbw, hb.cell hbs, hcell, hpe]; simp [hkl]
      have hpm : p.size ≤ maxLen := HP.out p (by rw [hpe]; exact List.getElem_mem _)
      have HPM := Lib.hid hpm
      have hps : p.size ≤ 9223372036854775807 := hpm
      have HS := Lib.hid (show ps.take (k + 1) = ps.take k ++ [p] by rw [hpe, List.take_succ_eq_append_getElem hkl])
      clear hcell hpe hkl hpm
      obtain ⟨u, hu⟩ : ∃ u, u = ofL start (ps.take k) := ⟨_, rfl⟩
      rw [← hu]
      have HU := Lib.hid hu
      clear hu
      have hk0 : (0 : Int) ≤ (k : Int) := by omega
      have hk1 : (k : Int) < (len : Int) := by omega
      go_wp2_with fail
      refine wp_region_bw wr.heap.size (by kernel_rfl) (by kernel_rfl) ?_
      repeat (go_big_quiet_step (first | (go_at_call 43; exact Calls.bw (Nat.le_refl _) _ (long_any _ _)) | (go_at_call 42; first | exact Calls.bws _ (from_any _ _ _ (be8_size _)) | exact Calls.bws _ (from_any _ _ _ HPM.out))))
      refine wpQuiet_nil ?_
      rintro w' ⟨x, rfl⟩
      clear hck
      go_wp2
      go_roundw
      case rel => exact ⟨k + 1, by omega, by go_num, by rw [HS.out, ofL_snoc, ← HU.out], bt hb x.ok⟩
      case measure => simp [intOf]; omega
    · go_wp2
      go_ret
      exact ⟨by rw [List.take_of_length_le (by have := HR.out.1; simp at this; omega)]; rfl, hb⟩

end Go.Proofs.YtkcebbidmlnmmaaDoor
