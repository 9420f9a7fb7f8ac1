/- DirtyParts: the plain law. -/
import Derived.Test.YtkcebbidmlnmmaaDoorWg
namespace Go.Proofs.YtkcebbidmlnmmaaDoor
open Go.RowKit
theorem ext_first (t : ByteArray) (n : Nat) : (t.extract 0 n).data.toList = t.data.toList.take n := by
  rw [ByteArray.data_extract, Array.toList_extract]
  simp [List.extract]
theorem ext_rest (t : ByteArray) (n : Nat) : (t.extract n t.size).data.toList = t.data.toList.drop n := by
  rw [ByteArray.data_extract, Array.toList_extract]
  unfold List.extract
  rw [List.take_of_length_le]
  rw [List.length_drop, size_len]
  exact Nat.le_refl _
theorem sub_write {L : List Wr} {k a : Int} {t : ByteArray} (h : writeE L k a t = 0) : sub k (writeL L k a t) = sub k L ++ (if t.size = 0 then [] else [(a.toNat, t)]) := by
  unfold writeL
  by_cases e : t.size = 0
  · rw [if_neg (by simp [e]), if_pos e, List.append_nil]
  · rw [if_pos ⟨h, e⟩, if_neg e, sub_append, sub_one, if_pos rfl]
theorem sub_write_other {L : List Wr} {j k a : Int} {t : ByteArray} (h : j ≠ k) : sub j (writeL L k a t) = sub j L := by
  unfold writeL
  split
  · rw [sub_append, sub_one, if_neg h, List.append_nil]
  · rfl
theorem tot_write {L : List Wr} {k a : Int} {t : ByteArray} (h : writeE L k a t = 0) : tot (writeL L k a t) = tot L + t.size := by
  unfold writeL
  by_cases e : t.size = 0
  · rw [if_neg (by simp [e]), e]; rfl
  · rw [if_pos ⟨h, e⟩, tot_append]
    simp [tot]
theorem writeE_zero {L : List Wr} {k a : Int} {t : ByteArray} : writeE L k a t = 0 ↔ 1 ≤ k ∧ 0 ≤ a ∧ a + t.size ≤ 32768 ∧ tot L + t.size ≤ 65536 := by
  unfold writeE
  split
  · constructor
    · intro h; omega
    · intro h; omega
  · split
    · constructor
      · intro h; omega
      · intro h; omega
    · split
      · constructor
        · intro h; omega
        · intro h; omega
      · constructor
        · intro h; omega
        · intro h; rfl
/-- Two parts, one behind the other. -/
theorem ovr_parts (f : List UInt8) (a n : Nat) (t : ByteArray) (hn : n ≤ t.size) : ovr (ovr f (a, t.extract 0 n)) (a + n, t.extract n t.size) = ovr f (a, t) := by
  have s1 : (t.extract 0 n).size = n := by rw [ByteArray.size_extract]; omega
  have s2 : (t.extract n t.size).size = t.size - n := by rw [ByteArray.size_extract]; omega
  apply List.ext_getElem?
  intro i
  rw [ovr_at, ovr_at, ovr_len, ovr_at]
  simp only [s1, s2, ext_first, ext_rest]
  by_cases c1 : a + n ≤ i ∧ i < a + n + (t.size - n)
  · rw [if_pos c1, if_pos (show a ≤ i ∧ i < a + t.size by omega), List.getElem?_drop]
    congr 1
    omega
  · rw [if_neg c1]
    by_cases c2 : a ≤ i ∧ i < a + n
    · rw [if_pos (show i < max f.length (a + n) by omega), if_pos c2, if_pos (show a ≤ i ∧ i < a + t.size by omega), List.getElem?_take, if_pos (by omega)]
    · rw [if_neg c2, if_neg (show ¬ (a ≤ i ∧ i < a + t.size) by omega)]
      by_cases c3 : i < f.length
      · rw [if_pos (show i < max f.length (a + n) by omega), if_pos c3, if_pos c3]
      · rw [if_neg c3, if_neg c3]
        by_cases c4 : i < max f.length (a + n)
        · rw [if_pos c4, if_pos (show i < a + n by omega), if_pos (show i < a + t.size by omega)]
        · rw [if_neg c4]
          by_cases c5 : i < a + t.size
          · rw [if_pos (show i < a + n + (t.size - n) by omega), if_pos c5]
          · rw [if_neg (show ¬ i < a + n + (t.size - n) by omega), if_neg c5]
theorem parts_plain (a : Int) (t : ByteArray) (n : Nat) (hn : n ≤ t.size) (h : writeE [] 1 a t = 0) :
    writeE [] 1 a (t.extract 0 n) = 0 ∧ writeE (writeL [] 1 a (t.extract 0 n)) 1 (a + n) (t.extract n t.size) = 0 ∧
    tot (writeL (writeL [] 1 a (t.extract 0 n)) 1 (a + n) (t.extract n t.size)) = tot (writeL [] 1 a t) ∧
    (∀ f, overL (sub 1 (writeL (writeL [] 1 a (t.extract 0 n)) 1 (a + n) (t.extract n t.size))) f = overL (sub 1 (writeL [] 1 a t)) f) ∧
    ∀ m : Nat, sizeL (sub 1 (writeL (writeL [] 1 a (t.extract 0 n)) 1 (a + n) (t.extract n t.size))) m = sizeL (sub 1 (writeL [] 1 a t)) m := by
  have s1 : (t.extract 0 n).size = n := by rw [ByteArray.size_extract]; omega
  have s2 : (t.extract n t.size).size = t.size - n := by rw [ByteArray.size_extract]; omega
  have h' := writeE_zero.1 h
  have e1 : writeE [] 1 a (t.extract 0 n) = 0 := writeE_zero.2 ⟨by omega, by omega, by rw [s1]; omega, by rw [s1]; omega⟩
  have e2 : writeE (writeL [] 1 a (t.extract 0 n)) 1 (a + n) (t.extract n t.size) = 0 := writeE_zero.2 ⟨by omega, by omega, by rw [s2]; omega, by rw [tot_write e1, s1, s2]; simp [tot]; omega⟩
  have key : ∀ f, overL (sub 1 (writeL (writeL [] 1 a (t.extract 0 n)) 1 (a + n) (t.extract n t.size))) f = overL (sub 1 (writeL [] 1 a t)) f := by
    intro f
    rw [sub_write e2, sub_write e1, sub_write h, s1, s2]
    have ea : (a + (n : Int)).toNat = a.toNat + n := by omega
    by_cases c1 : n = 0
    · subst c1
      rw [if_pos rfl]
      by_cases c2 : t.size - 0 = 0
      · rw [if_pos c2, if_pos (by omega)]
        rfl
      · rw [if_neg c2, if_neg (by omega), ea]
        have : t.extract 0 t.size = t := ByteArray.extract_zero_size
        rw [this]
        rfl
    · rw [if_neg c1]
      by_cases c2 : t.size - n = 0
      · rw [if_pos c2, if_neg (by omega)]
        have e : n = t.size := by omega
        subst e
        have : t.extract 0 t.size = t := ByteArray.extract_zero_size
        rw [this]
        rfl
      · rw [if_neg c2, if_neg (by omega), ea]
        exact ovr_parts f a.toNat n t hn
  refine ⟨e1, e2, ?_, key, fun m => ?_⟩
  · rw [tot_write e2, tot_write e1, tot_write h, s1, s2]
    omega
  · obtain ⟨x, h1, _, h3⟩ := sizeL_nat (sub 1 (writeL (writeL [] 1 a (t.extract 0 n)) 1 (a + n) (t.extract n t.size))) m
    obtain ⟨y, h4, _, h6⟩ := sizeL_nat (sub 1 (writeL [] 1 a t)) m
    have hx := h3 (List.replicate m 0) (by simp)
    have hy := h6 (List.replicate m 0) (by simp)
    rw [key] at hx
    rw [h1, h4, ← hx, hy]
end Go.Proofs.YtkcebbidmlnmmaaDoor
