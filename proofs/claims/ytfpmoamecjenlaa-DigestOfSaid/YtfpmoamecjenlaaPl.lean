/- Plain facts on sums: they go back, byte by byte; a sum's text is read as it. -/
import Derived.Test.YtfpmoamecjenlaaWd
namespace Go.Proofs.Ytfpmoamecjenlaa
open Go.RowKit

def M64 : Nat := 18446744073709551616
theorem step_nat (u : Nat) (c : UInt8) (hu : u < M64) : stepU u c.toNat = (((u ^^^ c.toNat) * 1099511628211 % M64 : Nat) : Int) := by
  unfold stepU
  rw [bits_xor_u64_nat u c.toNat hu (by have := c.toNat_lt; omega), IntKind.wrap_u64]
  unfold M64
  omega
theorem mul_inj {x y : Nat} (hx : x < M64) (hy : y < M64) (h : x * 1099511628211 % M64 = y * 1099511628211 % M64) : x = y := by
  have key : ∀ z : Nat, z < M64 → z * 1099511628211 % M64 * 14886173955864302971 % M64 = z := by
    intro z hz
    rw [Nat.mod_mul_mod, Nat.mul_assoc]
    have : 1099511628211 * 14886173955864302971 = 887285111055 * M64 + 1 := by decide
    rw [this, Nat.mul_add, ← Nat.mul_assoc, Nat.mul_one, Nat.mul_add_mod_self_right, Nat.mod_eq_of_lt hz]
  rw [← key x hx, ← key y hy, h]
theorem xor_lt {u : Nat} (hu : u < M64) (c : UInt8) : u ^^^ c.toNat < M64 := Nat.xor_lt_two_pow (n := 64) hu (by have := c.toNat_lt; omega)
theorem xor_inj_left {u v c : Nat} (h : u ^^^ c = v ^^^ c) : u = v := by
  have := congrArg (· ^^^ c) h
  simpa [Nat.xor_assoc] using this
theorem xor_inj_right {u c d : Nat} (h : u ^^^ c = u ^^^ d) : c = d := by
  rw [Nat.xor_comm u, Nat.xor_comm u] at h; exact xor_inj_left h

/-- A sum is a number of 64 bits. -/
def Is64 (u : Int) : Prop := 0 ≤ u ∧ u < 18446744073709551616
theorem Is64.nat {u : Int} (h : Is64 u) : ∃ n : Nat, u = n ∧ n < M64 := ⟨u.toNat, by have := h.1; omega, by have := h.1; have := h.2; unfold M64; omega⟩
theorem step_64 (u : Int) (c : Int) : Is64 (stepU u c) := by
  unfold stepU; rw [IntKind.wrap_u64]; exact ⟨by omega, by omega⟩
theorem start_64 : Is64 start := ⟨by decide, by decide⟩
theorem sumL_64 (l : List UInt8) : ∀ u, Is64 u → Is64 (sumL u l) := by
  induction l with
  | nil => intro u h; exact h
  | cons c t ih => intro u _; exact ih _ (step_64 _ _)
theorem step_inj {u v : Int} {c : UInt8} (hu : Is64 u) (hv : Is64 v) (h : stepU u c.toNat = stepU v c.toNat) : u = v := by
  obtain ⟨x, rfl, hx⟩ := hu.nat
  obtain ⟨y, rfl, hy⟩ := hv.nat
  rw [step_nat x c hx, step_nat y c hy] at h
  have h1 := mul_inj (xor_lt hx c) (xor_lt hy c) (by exact_mod_cast h)
  rw [xor_inj_left h1]
theorem step_byte {u : Int} {c d : UInt8} (hu : Is64 u) (h : stepU u c.toNat = stepU u d.toNat) : c = d := by
  obtain ⟨x, rfl, hx⟩ := hu.nat
  rw [step_nat x c hx, step_nat x d hx] at h
  have h1 := xor_inj_right (mul_inj (xor_lt hx c) (xor_lt hx d) (by exact_mod_cast h))
  exact UInt8.toNat_inj.1 h1
theorem sumL_inj (l : List UInt8) : ∀ {u v : Int}, Is64 u → Is64 v → sumL u l = sumL v l → u = v := by
  induction l with
  | nil => intro u v _ _ h; exact h
  | cons c t ih => intro u v hu hv h; exact step_inj hu hv (ih (step_64 _ _) (step_64 _ _) h)
/-- The sums with one end behind are one just if those without it are. -/
theorem on_iff (a b e : List UInt8) : (sumL start (a ++ e) == sumL start (b ++ e)) = (sumL start a == sumL start b) := by
  rw [sumL_append, sumL_append, Bool.eq_iff_iff]
  simp only [beq_iff_eq]
  exact ⟨fun h => sumL_inj e (sumL_64 a _ start_64) (sumL_64 b _ start_64) h, fun h => by rw [h]⟩
theorem byte_iff (x : List UInt8) (a b : UInt8) (y : List UInt8) : (sumL start (x ++ a :: y) == sumL start (x ++ b :: y)) = (a == b) := by
  rw [sumL_append, sumL_append, Bool.eq_iff_iff]
  simp only [beq_iff_eq]
  constructor
  · intro h
    exact step_byte (sumL_64 x _ start_64) (sumL_inj y (step_64 _ _) (step_64 _ _) h)
  · intro h; rw [h]

theorem or_join (a b : Nat) (hb : b < 16) : (16 * a) ||| b = 16 * a + b := by
  have := Nat.two_pow_add_eq_or_of_lt (i := 4) (b := b) (by omega) a
  rw [show (2 : Nat) ^ 4 = 16 from rfl] at this
  omega
theorem pstep_eq {u d : Int} (h0 : 0 ≤ u) (h1 : u < 1152921504606846976) (hd0 : 0 ≤ d) (hd : d < 16) : pstep u d = u * 16 + d := by
  obtain ⟨a, rfl⟩ := Int.eq_ofNat_of_zero_le h0
  obtain ⟨b, rfl⟩ := Int.eq_ofNat_of_zero_le hd0
  unfold pstep
  rw [IntKind.wrap_u64, Int.emod_eq_of_lt (by omega) (by omega)]
  have := bits_or_u64_nat (16 * a) b (by omega) (by omega)
  rw [or_join a b (by omega)] at this
  have e : ((a : Int) * 16) = ((16 * a : Nat) : Int) := by omega
  rw [e, this]; omega
theorem dig_hexc {d : Int} (h0 : 0 ≤ d) (h1 : d < 16) : dig (hexc d).toNat = some d := by
  by_cases h : d ≤ 9
  · have := hexc_lo d h0 h
    rw [this]; unfold dig; rw [if_pos ⟨by omega, by omega⟩]; congr 1; omega
  · have := hexc_hi d (by omega) h1
    rw [this]; unfold dig; rw [if_neg (by omega), if_pos ⟨by omega, by omega⟩]; congr 1; omega
theorem hexc_dig {c : UInt8} {d : Int} (h : dig c.toNat = some d) : 0 ≤ d ∧ d < 16 ∧ hexc d = c := by
  unfold dig at h
  split at h
  · rename_i hh
    simp at h
    refine ⟨by omega, by omega, ?_⟩
    apply UInt8.toNat_inj.1
    have := hexc_lo d (by omega) (by omega)
    omega
  · split at h
    · rename_i hh
      simp at h
      refine ⟨by omega, by omega, ?_⟩
      apply UInt8.toNat_inj.1
      have := hexc_hi d (by omega) (by omega)
      omega
    · simp at h

theorem div_split (u : Int) (k : Nat) : u / 2 ^ (4 * (k + 1)) * 16 + u / 2 ^ (4 * k) % 16 = u / 2 ^ (4 * k) := by
  rw [← div_step]; omega
theorem div_small (u : Int) (h1 : u < 18446744073709551616) (k : Nat) : u / 2 ^ (4 * (k + 1)) < 1152921504606846976 := by
  have e : (2 : Int) ^ (4 * (k + 1)) = 16 * 2 ^ (4 * k) := by rw [Nat.mul_add, Int.pow_add, Int.mul_comm]; rfl
  have hp : (0 : Int) < 2 ^ (4 * k) := Int.pow_pos (by omega)
  rw [e]
  apply Int.ediv_lt_of_lt_mul (by omega)
  have : (1152921504606846976 : Int) * (16 * 2 ^ (4 * k)) = 18446744073709551616 * 2 ^ (4 * k) := by omega
  rw [this]
  have h2 : (18446744073709551616 : Int) * 1 ≤ 18446744073709551616 * 2 ^ (4 * k) := Int.mul_le_mul_of_nonneg_left (by omega) (by omega)
  omega
theorem parse_text_at (u : Int) (h0 : 0 ≤ u) (h1 : u < 18446744073709551616) : ∀ k, k ≤ 16 → pL (u / 2 ^ (4 * k)) ((textL u).drop (16 - k)) = some u := by
  intro k
  induction k with
  | zero => intro _; rw [List.drop_of_length_le (by simp [textL])]; simp [pL]
  | succ k ih =>
    intro hk
    rw [show 16 - (k + 1) = 15 - k from by omega, text_drop u k (by omega)]
    have hn := nib_range u h0 h1 k
    rw [pL_good (dig_hexc hn.1 hn.2), pstep_eq (shr_range u h0 h1 _).1 (div_small u h1 k) hn.1 hn.2, nib_eq u h0 h1, div_split]
    exact ih (by omega)
theorem parse_text (u : Int) (h : Is64 u) : parseF (textL u) = (u, 0) := by
  have := parse_text_at u h.1 h.2 16 (by omega)
  have e : u / 2 ^ (4 * 16) = 0 := Int.ediv_eq_zero_of_lt h.1 (by have := h.2; exact this)
  rw [e, Nat.sub_self, List.drop_zero] at this
  unfold parseF
  rw [if_pos (by simp [textL]), this]

theorem text_parse_at : ∀ (l : List UInt8) (v x : Int), l.length ≤ 16 → 0 ≤ v → v * 2 ^ (4 * l.length) < 18446744073709551616 → pL v l = some x →
    0 ≤ x ∧ x < 18446744073709551616 ∧ x / 2 ^ (4 * l.length) = v ∧ (textL x).drop (16 - l.length) = l := by
  intro l
  induction l with
  | nil =>
    intro v x _ h0 h1 h
    simp [pL] at h
    subst h
    simp at h1
    exact ⟨h0, h1, by simp, by rw [List.drop_of_length_le (by simp [textL])]⟩
  | cons c t ih =>
    intro v x hl h0 h1 h
    simp only [List.length_cons] at hl h1 ⊢
    have hp : (0 : Int) < 2 ^ (4 * t.length) := Int.pow_pos (by omega)
    have e16 : (2 : Int) ^ (4 * (t.length + 1)) = 16 * 2 ^ (4 * t.length) := by rw [Nat.mul_add, Int.pow_add, Int.mul_comm]; rfl
    cases hd : dig c.toNat with
    | none => rw [pL_bad hd] at h; cases h
    | some d =>
      rw [pL_good hd] at h
      obtain ⟨d0, d1, hc⟩ := hexc_dig hd
      have hv : v < 1152921504606846976 := by
        rw [e16, ← Int.mul_assoc] at h1
        have h2 : v * 16 * 1 ≤ v * 16 * 2 ^ (4 * t.length) := Int.mul_le_mul_of_nonneg_left (by omega) (by omega)
        omega
      rw [pstep_eq h0 hv d0 d1] at h
      have hb : (v * 16 + d) * 2 ^ (4 * t.length) < 18446744073709551616 := by
        have hdvd : (2 : Int) ^ (4 * t.length) * (2 ^ (4 * (16 - t.length))) = 18446744073709551616 := by
          rw [← Int.pow_add, show 4 * t.length + 4 * (16 - t.length) = 64 from by omega]; rfl
        have e16' : (2 : Int) ^ (4 * (16 - t.length)) = 16 * 2 ^ (4 * (15 - t.length)) := by
          rw [show 4 * (16 - t.length) = 4 * (15 - t.length) + 4 from by omega, Int.pow_add, Int.mul_comm]; rfl
        have hvv : v < 2 ^ (4 * (15 - t.length)) := by
          apply Int.lt_of_mul_lt_mul_right (a := 16 * 2 ^ (4 * t.length)) _ (by omega)
          have e3 : (2 : Int) ^ (4 * (15 - t.length)) * (16 * 2 ^ (4 * t.length)) = 18446744073709551616 := by
            rw [← hdvd, e16', Int.mul_left_comm, ← Int.mul_assoc, Int.mul_comm, Int.mul_left_comm]
          rw [e3, ← e16]
          exact h1
        rw [← hdvd, e16']
        have hle : v * 16 + d < 16 * 2 ^ (4 * (15 - t.length)) := by omega
        have := Int.mul_lt_mul_of_pos_right hle hp
        rw [Int.mul_comm (2 ^ (4 * t.length))]
        exact this
      obtain ⟨x0, x1, xd, xt⟩ := ih (v * 16 + d) x (by omega) (by omega) hb h
      refine ⟨x0, x1, ?_, ?_⟩
      · rw [← div_step, xd]; omega
      · rw [show 16 - (t.length + 1) = 15 - t.length from by omega, text_drop x t.length (by omega), xt, nib_eq x x0 x1, xd]
        rw [show (v * 16 + d) % 16 = d from by omega, hc]
theorem text_parse (l : List UInt8) (x : Int) (h : parseF l = (x, 0)) : textL x = l ∧ Is64 x := by
  unfold parseF at h
  split at h
  · rename_i hl
    cases hp : pL 0 l with
    | none => rw [hp] at h; simp at h
    | some y =>
      rw [hp] at h
      simp at h
      subst h
      have := text_parse_at l 0 y (by omega) (by omega) (by simp) hp
      rw [hl, Nat.sub_self, List.drop_zero] at this
      exact ⟨this.2.2.2, this.1, this.2.1⟩
  · simp at h
end Go.Proofs.Ytfpmoamecjenlaa
