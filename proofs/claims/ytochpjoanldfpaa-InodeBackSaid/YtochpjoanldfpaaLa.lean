/- Plain laws: there and back. -/
import Derived.Test.YtochpjoanldfpaaWk
namespace Go.Proofs.Ytochpjoanldfpaa
open Go.RowKit
theorem by8_nat (n : Int) : ((by8 n).toNat : Int) = n % 256 := by
  have := by8_val n
  unfold B8 at this
  injection this
theorem u8_ext {a b : UInt8} (h : (a.toNat : Int) = b.toNat) : a = b := UInt8.toNat_inj.1 (by omega)
theorem num_word (n : Int) (h0 : 0 ≤ n) (h1 : n ≤ 2147483647) : numF (by8 (n / 16777216)) (by8 (n / 65536)) (by8 (n / 256)) (by8 n) = n := by
  unfold numF
  rw [by8_nat, by8_nat, by8_nat, by8_nat]
  omega
theorem word_num (a b c d : UInt8) : wordL (numF a b c d) = [a, b, c, d] := by
  have ha := a.toNat_lt
  have hb := b.toNat_lt
  have hc := c.toNat_lt
  have hd := d.toNat_lt
  have e1 : by8 (numF a b c d / 16777216) = a := u8_ext (by rw [by8_nat]; unfold numF; omega)
  have e2 : by8 (numF a b c d / 65536) = b := u8_ext (by rw [by8_nat]; unfold numF; omega)
  have e3 : by8 (numF a b c d / 256) = c := u8_ext (by rw [by8_nat]; unfold numF; omega)
  have e4 : by8 (numF a b c d) = d := u8_ext (by rw [by8_nat]; unfold numF; omega)
  unfold wordL
  rw [e1, e2, e3, e4]
theorem dec_enc (k m l s t c i g : Int) (h : mayF ⟨k, m, l, s, t, c, i, g⟩ = true) : decodeF ⟨(encL ⟨k, m, l, s, t, c, i, g⟩).toArray⟩ = (⟨k, m, l, s, t, c, i, g⟩, 0) := by
  have hM := h
  simp only [mayF, decide_eq_true_eq] at hM
  obtain ⟨m1, m2, m3, m4, m5, m6, m7, m8, m9, m10, m11, m12, m13, m14, m15, m16, m17, m18⟩ := hM
  have e : decF ⟨(encL ⟨k, m, l, s, t, c, i, g⟩).toArray⟩ = ⟨k, m, l, s, t, c, i, g⟩ := by
    unfold decF
    have f0 : ((bAt ⟨(encL ⟨k, m, l, s, t, c, i, g⟩).toArray⟩ 0).toNat : Int) = k := by
      show ((by8 k).toNat : Int) = k
      rw [by8_nat]; omega
    rw [f0]
    show (⟨k, numF (by8 (m / 16777216)) (by8 (m / 65536)) (by8 (m / 256)) (by8 m), numF (by8 (l / 16777216)) (by8 (l / 65536)) (by8 (l / 256)) (by8 l), numF (by8 (s / 16777216)) (by8 (s / 65536)) (by8 (s / 256)) (by8 s), numF (by8 (t / 16777216)) (by8 (t / 65536)) (by8 (t / 256)) (by8 t), numF (by8 (c / 16777216)) (by8 (c / 65536)) (by8 (c / 256)) (by8 c), numF (by8 (i / 16777216)) (by8 (i / 65536)) (by8 (i / 256)) (by8 i), numF (by8 (g / 16777216)) (by8 (g / 65536)) (by8 (g / 256)) (by8 g)⟩ : Att) = _
    rw [num_word m (by omega) (by omega), num_word l (by omega) (by omega), num_word s (by omega) (by omega), num_word t (by omega) (by omega), num_word c (by omega) (by omega), num_word i (by omega) (by omega), num_word g (by omega) (by omega)]
  unfold decodeF
  rw [e, if_pos ⟨rfl, h⟩]
theorem list_bAt (s : ByteArray) (n : Nat) (h : s.size = n) : s.data.toList = (List.range n).map (bAt s) := by
  apply List.ext_getElem
  · simp; exact h
  · intro i h1 h2
    have h3 : i < s.size := by simpa using h1
    simp
    exact bAt_get s i h3
theorem enc_dec (s : ByteArray) (c : Att) (h : decodeF s = (c, 0)) : encodeF c = (s.data.toList, 0) := by
  unfold decodeF at h
  split at h
  · rename_i h2
    obtain ⟨h2, h3⟩ := h2
    cases h
    unfold encodeF
    rw [if_pos h3]
    congr 1
    rw [list_bAt s 29 h2]
    unfold encL decF numAt
    simp only [word_num]
    have : by8 ((bAt s 0).toNat : Int) = bAt s 0 := u8_ext (by rw [by8_nat]; have := (bAt s 0).toNat_lt; omega)
    rw [this]
    rfl
  · cases h
theorem decM_met (x y : Int) (r : List UInt8) (h : metF x y = (r, 0)) : decMF ⟨r.toArray⟩ = ((x, y), 0) := by
  unfold metF at h
  split at h
  · rename_i h2
    cases h
    have h3 := h2
    simp [rng] at h3
    have e1 : numAt ⟨(metL x y).toArray⟩ 1 = x := by
      show numF (by8 (x / 16777216)) (by8 (x / 65536)) (by8 (x / 256)) (by8 x) = x
      exact num_word x (by omega) (by omega)
    have e2 : numAt ⟨(metL x y).toArray⟩ 5 = y := by
      show numF (by8 (y / 16777216)) (by8 (y / 65536)) (by8 (y / 256)) (by8 y) = y
      exact num_word y (by omega) (by omega)
    unfold decMF
    rw [e1, e2, if_pos ⟨rfl, rfl, h2⟩]
  · cases h
theorem met_decM (s : ByteArray) (x y : Int) (h : decMF s = ((x, y), 0)) : metF x y = (s.data.toList, 0) := by
  unfold decMF at h
  split at h
  · rename_i h2
    obtain ⟨h2, h3, h4⟩ := h2
    cases h
    unfold metF
    rw [if_pos h4]
    congr 1
    rw [list_bAt s 9 h2]
    unfold metL numAt
    simp only [word_num]
    rw [← h3]
    rfl
  · cases h
end Go.Proofs.Ytochpjoanldfpaa
