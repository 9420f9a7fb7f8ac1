/- How arguments are opened: slices of integers, of bytes, of strings. -/
import Derived.Test.YtefjpljjdjecjaaBa
import Derived.ProofKit
import Derived.OpenShut
import Derived.ShutString
import Derived.SliceStrings
namespace Go.Proofs.Ytefjpljjdjecjaa
open Go.ChangeShapes Go.WideShapes Go.ChangeAt Go.RowKit

theorem sliceAt_of_cells {w : World} {x : Addr} {len : Nat} {l : List Value} (hl : l.length = len) (hc : ∀ i, i < len → ∃ v, w.cell? (x.add i) = some v ∧ l[i]? = some v) : SliceAt w (some x) len l := by
  refine ⟨hl, ?_⟩
  by_cases h0 : len = 0
  · exact .inl h0
  · right
    obtain ⟨b, off, spot⟩ := x
    obtain ⟨v, h1, _⟩ := hc 0 (by omega)
    have hspot : spot = none := by simpa [Addr.add] using World.cell?_spot h1
    subst hspot
    refine ⟨b, off, rfl, ?_, ?_⟩
    · have h2 : w.cell? ⟨b, off, none⟩ = some v := by simpa [Addr.add] using h1
      by_cases hh : b < w.heap.size
      · exact hh
      · unfold World.cell? at h2
        rw [Array.getElem?_eq_none (by simpa using hh)] at h2
        cases h2
    · intro i hi
      obtain ⟨u, h3, h4⟩ := hc i hi
      have e1 : (⟨b, off, none⟩ : Addr).add i = ⟨b, off + i, none⟩ := by
        unfold Addr.add; split
        · rename_i h; subst h; rfl
        · rfl
      rw [e1] at h3
      rw [h3, h4]

section
variable {H : Type} {enc : TypeId × Value → H} {P : Program} {w : World} {base : Nat} {spare : Nat → Bool} {held : Bool} {r : Reach} {b0 : Nat} {t e : TypeId} {v : Value} {d : DataW H} {p : List MemPlace}
/-- A slice of integers that came in. -/
theorem open_ints_at {k : IntKind} (ht : P.underlying t = some (.slice e)) (he : P.underlying e = some (.int k)) (hc : P.cellsOf e = 1) (hv : Value.okWide P w r b0 t v) (h : DataW.Trod enc P w base spare held t v d p) :
    ∃ (a : Option Addr) (len cap : Nat) (l : List Int), v = .slice a len cap ∧ len ≤ cap ∧ cap ≤ maxLen ∧ (a = none → cap = 0) ∧ SliceAt w a len (l.map (Value.int k)) ∧ ∀ x ∈ l, (Lit.int k x).wf = true := by
  obtain ⟨a0, len0, cap0, rfl⟩ := okWide_slice ht hv
  obtain ⟨fuel, hf⟩ := h
  rcases open_ints ht he hc hf with ⟨hcs, _⟩ | ⟨x, l, c, zs, hcs, _, hl, hm, hz, _, hcell, hwz⟩
  · simp [Value.cells] at hcs
    obtain ⟨rfl, rfl, rfl⟩ := hcs
    exact ⟨none, 0, 0, [], rfl, Nat.le_refl _, Nat.zero_le _, fun _ => rfl, SliceAt.nil _ _, by simp⟩
  · simp [Value.cells] at hcs
    obtain ⟨rfl, rfl, rfl⟩ := hcs
    have hzl : len0 ≤ zs.length := by rw [hz]; split <;> omega
    refine ⟨some x, len0, cap0, zs.take len0, rfl, hl, hm, (fun h => by cases h), ?_, fun y hy => hwz y (List.mem_of_mem_take hy)⟩
    refine sliceAt_of_cells (by simp; omega) fun i hi => ⟨_, hcell i (by omega), ?_⟩
    have h2 : i < zs.length := by omega
    simp [List.getD_eq_getElem?_getD, hi, h2]
/-- A slice of bytes that came in. -/
theorem open_bytes_at (ht : P.underlying t = some (.slice e)) (he : P.underlying e = some (.int .u8)) (hc : P.cellsOf e = 1) (hv : Value.okWide P w r b0 t v) (h : DataW.Trod enc P w base spare held t v d p) :
    ∃ (a : Option Addr) (len cap : Nat) (l : List UInt8), v = .slice a len cap ∧ len ≤ cap ∧ cap ≤ maxLen ∧ (a = none → cap = 0) ∧ SliceAt w a len (l.map B8) := by
  obtain ⟨a, len, cap, l, rfl, h1, h2, h3, h4, h5⟩ := open_ints_at ht he hc hv h
  refine ⟨a, len, cap, l.map fun n => UInt8.ofNat n.toNat, rfl, h1, h2, h3, ?_⟩
  have : (l.map fun n => UInt8.ofNat n.toNat).map B8 = l.map (Value.int .u8) := by
    rw [List.map_map]
    apply List.map_congr_left
    intro n hn
    have hw := h5 n hn
    simp [Lit.wf, IntKind.min, IntKind.max, IntKind.signed, IntKind.bits] at hw
    simp only [Function.comp, B8]
    congr 1
    have : (UInt8.ofNat n.toNat).toNat = n.toNat := by simp [UInt8.toNat_ofNat']; omega
    omega
  rw [this]; exact h4
/-- A slice of strings that came in. -/
theorem open_strs_at (ht : P.underlying t = some (.slice e)) (he : P.underlying e = some .string) (hc : P.cellsOf e = 1) (hv : Value.okWide P w r b0 t v) (h : DataW.Trod enc P w base spare held t v d p) :
    ∃ (a : Option Addr) (len cap : Nat) (ss : List ByteArray), v = .slice a len cap ∧ len ≤ cap ∧ cap ≤ maxLen ∧ (a = none → cap = 0) ∧ SliceAt w a len (ss.map Value.string) ∧ ∀ s ∈ ss, s.size ≤ maxLen := by
  obtain ⟨a0, len0, cap0, rfl⟩ := okWide_slice ht hv
  obtain ⟨fuel, hf⟩ := h
  rcases open_strings ht he hc hf with ⟨hcs, _⟩ | ⟨x, l, c, zs, hcs, _, hl, hm, hz, _, hcell, hwz⟩
  · simp [Value.cells] at hcs
    obtain ⟨rfl, rfl, rfl⟩ := hcs
    exact ⟨none, 0, 0, [], rfl, Nat.le_refl _, Nat.zero_le _, fun _ => rfl, SliceAt.nil _ _, by simp⟩
  · simp [Value.cells] at hcs
    obtain ⟨rfl, rfl, rfl⟩ := hcs
    have hzl : len0 ≤ zs.length := by rw [hz]; split <;> omega
    refine ⟨some x, len0, cap0, zs.take len0, rfl, hl, hm, (fun h => by cases h), ?_, fun y hy => hwz y (List.mem_of_mem_take hy)⟩
    refine sliceAt_of_cells (by simp; omega) fun i hi => ⟨_, hcell i (by omega), ?_⟩
    have h2 : i < zs.length := by omega
    simp [List.getD_eq_getElem?_getD, hi, h2]
end
theorem wf_i64 {x : Int} (h : (Lit.int .i64 x).wf = true) : -9223372036854775808 ≤ x ∧ x ≤ 9223372036854775807 := by
  simp [Lit.wf, IntKind.min, IntKind.max, IntKind.signed, IntKind.bits] at h
  omega
theorem wf_u64 {x : Int} (h : (Lit.int .u64 x).wf = true) : 0 ≤ x ∧ x < 18446744073709551616 := by
  simp [Lit.wf, IntKind.min, IntKind.max, IntKind.signed, IntKind.bits] at h
  omega
theorem wf_u8 {x : Int} (h : (Lit.int .u8 x).wf = true) : ∃ c : UInt8, x = c.toNat := by
  simp [Lit.wf, IntKind.min, IntKind.max, IntKind.signed, IntKind.bits] at h
  exact ⟨UInt8.ofNat x.toNat, by have : (UInt8.ofNat x.toNat).toNat = x.toNat := by simp [UInt8.toNat_ofNat']; omega
                                 omega⟩
end Go.Proofs.Ytefjpljjdjecjaa
