/- Plain facts on doubles, no program in sight: rounding to the nearest is monotone, exact where it can be; sums of small integers are exact; quotients keep their order. -/
import Ieee.Arith
import Derived.Laws.FloatBits
namespace JFl
open Ieee

variable (f : Format)

theorem binade_pos : 0 < f.binade := Nat.two_pow_pos _

def mag (r : Nat) : Nat := if r < f.binade then r else f.binade + r % f.binade
def sh (r : Nat) : Nat := if r < f.binade then 0 else r / f.binade - 1
/-- The value of a rung, in units of the least place. -/
def rv (r : Nat) : Nat := mag f r * 2 ^ sh f r

theorem split_rung (r : Nat) : ∃ k c, r = k * f.binade + c ∧ (k = 0 ∨ f.binade ≤ c) ∧ c < 2 * f.binade := by
  have hb := binade_pos f
  by_cases h : r < f.binade
  · exact ⟨0, r, by omega, .inl rfl, by omega⟩
  · refine ⟨r / f.binade - 1, f.binade + r % f.binade, ?_, .inr (by omega), ?_⟩
    · have h1 : 1 ≤ r / f.binade := (Nat.le_div_iff_mul_le hb).2 (by omega)
      have h2 := Nat.div_add_mod r f.binade
      have h3 : (r / f.binade - 1) * f.binade + f.binade = f.binade * (r / f.binade) := by
        rw [← Nat.succ_mul, Nat.mul_comm]; congr 1; omega
      omega
    · have := Nat.mod_lt r hb; omega

theorem parts_at {k c : Nat} (h : k = 0 ∨ f.binade ≤ c) (hc : c < 2 * f.binade) : mag f (k * f.binade + c) = c ∧ sh f (k * f.binade + c) = k := by
  have hb := binade_pos f
  by_cases h1 : c < f.binade
  · obtain rfl : k = 0 := by omega
    simp [mag, sh, h1]
  · have e : k * f.binade + c = (c - f.binade) + (k + 1) * f.binade := by rw [Nat.succ_mul]; omega
    have h2 : ¬ k * f.binade + c < f.binade := by omega
    have hd : (k * f.binade + c) / f.binade = k + 1 := by
      rw [e, Nat.add_mul_div_right _ _ hb, Nat.div_eq_of_lt (by omega)]; omega
    have hm : (k * f.binade + c) % f.binade = c - f.binade := by
      rw [e, Nat.add_mul_mod_self_right, Nat.mod_eq_of_lt (by omega)]
    simp only [mag, sh, h2, if_false, hd, hm]
    omega

theorem rv_at {k c : Nat} (h : k = 0 ∨ f.binade ≤ c) (hc : c ≤ 2 * f.binade) : rv f (k * f.binade + c) = c * 2 ^ k := by
  have hb := binade_pos f
  by_cases h1 : c < 2 * f.binade
  · obtain ⟨a, b⟩ := parts_at f h h1
    simp [rv, a, b]
  · obtain rfl : c = 2 * f.binade := by omega
    have e : k * f.binade + 2 * f.binade = (k + 1) * f.binade + f.binade := by rw [Nat.add_mul k 1]; omega
    obtain ⟨a, b⟩ := parts_at f (k := k + 1) (c := f.binade) (.inr (Nat.le_refl _)) (by omega)
    rw [rv, e, a, b, Nat.pow_succ, Nat.mul_comm 2, Nat.mul_assoc, Nat.mul_comm 2]

theorem rv_succ (r : Nat) : rv f (r + 1) = rv f r + 2 ^ sh f r := by
  obtain ⟨k, c, rfl, h, hc⟩ := split_rung f r
  rw [Nat.add_assoc, rv_at f (by omega) (by omega), rv_at f h (by omega), (parts_at f h hc).2, Nat.succ_mul]

theorem rv_lt {r q : Nat} (h : r < q) : rv f r < rv f q := by
  induction q with
  | zero => omega
  | succ q ih =>
    have := Nat.two_pow_pos (sh f q)
    rw [rv_succ]
    by_cases e : r = q
    · subst e; omega
    · have := ih (by omega); omega

theorem rv_le {r q : Nat} (h : r ≤ q) : rv f r ≤ rv f q := by
  by_cases e : r = q
  · subst e; exact Nat.le_refl _
  · exact Nat.le_of_lt (rv_lt f (by omega))

theorem rv_zero : rv f 0 = 0 := by simp [rv, mag, binade_pos]

/-- Rounding to the nearest, ties to even: what is above a step's middle. -/
theorem cut_gt (neg : Bool) (n drop c : Nat) : c < Toward.even.cut neg n drop ↔ (2 * c + 1) * 2 ^ drop < 2 * n ∨ ((2 * c + 1) * 2 ^ drop = 2 * n ∧ c % 2 = 1) := by
  unfold Toward.cut
  by_cases hd : drop ≤ n.log2 + 2
  · simp only [Nat.min_eq_left hd, Nat.one_shiftLeft]
    have hg := Nat.two_pow_pos drop
    generalize 2 ^ drop = g at hg
    have h1 := Nat.div_add_mod n g
    have h2 := Nat.mod_lt n hg
    generalize n / g = low at h1
    generalize n % g = rest at h1 h2
    subst h1
    rcases Nat.lt_trichotomy c low with h | h | h
    · have e : (2 * c + 1) * g + g ≤ 2 * (g * low) := by
        have : (2 * c + 2) * g ≤ (2 * low) * g := Nat.mul_le_mul_right _ (by omega)
        have e1 : (2 * c + 2) * g = (2 * c + 1) * g + g := Nat.succ_mul _ _
        have e2 : (2 * low) * g = 2 * (g * low) := by rw [Nat.mul_assoc, Nat.mul_comm low]
        omega
      constructor
      · intro _; left; omega
      · intro _; omega
    · subst h
      have e : (2 * c + 1) * g = 2 * (g * c) + g := by rw [Nat.succ_mul, Nat.mul_assoc, Nat.mul_comm c]
      rw [e]
      by_cases a : g < 2 * rest
      · simp [a]; omega
      · by_cases b : g = 2 * rest
        · have b' : (g == 2 * rest) = true := by simp [b]
          by_cases o : c % 2 = 1
          · have o' : (c % 2 == 1) = true := by simp [o]
            simp only [a, b', o', decide_false, Bool.and_true, Bool.or_true, Bool.toNat_true]; omega
          · have o' : (c % 2 == 1) = false := by simp [o]
            simp only [a, b', o', decide_false, Bool.and_false, Bool.or_false, Bool.toNat_false]; omega
        · have b' : (g == 2 * rest) = false := by simp [b]
          simp [a, b']; omega
    · have e : 2 * (g * low) + 3 * g ≤ (2 * c + 1) * g := by
        have : (2 * low + 3) * g ≤ (2 * c + 1) * g := Nat.mul_le_mul_right _ (by omega)
        have e1 : (2 * low + 3) * g = 2 * (g * low) + 3 * g := by rw [Nat.add_mul, Nat.mul_assoc, Nat.mul_comm low]
        omega
      have e2 : ∀ b : Bool, b.toNat ≤ 1 := by decide
      have e3 := e2 (decide (g < 2 * rest) || (g == 2 * rest && low % 2 == 1))
      constructor
      · intro hh
        exfalso
        have : c < low + (decide (g < 2 * rest) || (g == 2 * rest && low % 2 == 1)).toNat := hh
        omega
      · omega
  · have hlog : n < 2 ^ (n.log2 + 1) := Nat.lt_log2_self
    have hp : 2 ^ (n.log2 + 2) = 2 * 2 ^ (n.log2 + 1) := by rw [Nat.pow_succ]; omega
    have hle : 2 ^ (n.log2 + 2) ≤ 2 ^ drop := Nat.pow_le_pow_right (by omega) (by omega)
    simp only [Nat.min_eq_right (Nat.le_of_lt (Nat.not_le.1 hd)), Nat.one_shiftLeft]
    rw [Nat.div_eq_of_lt (by omega), Nat.mod_eq_of_lt (by omega)]
    have a : ¬ 2 ^ (n.log2 + 2) < 2 * n := by omega
    have b : (2 ^ (n.log2 + 2) == 2 * n) = false := by simp; omega
    have e : 2 ^ drop ≤ (2 * c + 1) * 2 ^ drop := Nat.le_mul_of_pos_left _ (by omega)
    simp [a, b]
    omega

def P (k : Int) : Rat := (2 : Rat) ^ k
theorem P_pos (k : Int) : 0 < P k := Rat.zpow_pos (by decide)
theorem P_add (a b : Int) : P (a + b) = P a * P b := Rat.zpow_add (by decide) a b
theorem P_nat (n : Nat) : P n = ((2 ^ n : Nat) : Rat) := by
  unfold P; rw [Rat.zpow_natCast]
  induction n with
  | zero => rfl
  | succ n ih => rw [Rat.pow_succ, ih, Nat.pow_succ, Rat.natCast_mul]; rfl
theorem P_le {a b : Int} (h : a ≤ b) : P a ≤ P b := by
  obtain ⟨n, rfl⟩ := Int.le.dest h
  rw [P_add, P_nat]
  have h1 : (1 : Rat) ≤ ((2 ^ n : Nat) : Rat) := by
    have : 1 ≤ 2 ^ n := Nat.two_pow_pos n
    exact_mod_cast this
  have h2 := Rat.mul_le_mul_of_nonneg_left h1 (Rat.le_of_lt (P_pos a))
  grind

theorem mul_lt_iff {a b c : Rat} (hc : 0 < c) : a * c < b * c ↔ a < b := by
  constructor
  · intro h
    by_cases h1 : a < b
    · exact h1
    · have : b ≤ a := by grind
      have := Rat.mul_le_mul_of_nonneg_left this (Rat.le_of_lt hc)
      grind
  · intro h
    have := Rat.mul_lt_mul_of_pos_left h hc
    grind
theorem mul_eq_iff {a b c : Rat} (hc : 0 < c) : a * c = b * c ↔ a = b := by
  constructor
  · intro h
    by_cases h1 : a < b
    · have := (mul_lt_iff hc).2 h1; grind
    · by_cases h2 : b < a
      · have := (mul_lt_iff hc).2 h2; grind
      · grind
  · intro h; rw [h]
theorem mul_le_iff {a b c : Rat} (hc : 0 < c) : a * c ≤ b * c ↔ a ≤ b := by
  have := mul_lt_iff (a := b) (b := a) hc
  grind

def last (m : Nat) (place : Int) : Int := max (place + m.log2 - f.fractionBits) f.leastPlace
def rungOf (neg : Bool) (m : Nat) (place : Int) : Nat :=
  (last f m place - f.leastPlace).toNat * f.binade + Toward.even.cut neg (m <<< (place - last f m place).toNat) (last f m place - place).toNat

theorem nearest_eq (neg : Bool) {m : Nat} (hm : m ≠ 0) (place : Int) : f.nearest neg m place = f.word neg (min (rungOf f neg m place) f.infRung) := by
  simp only [Format.nearest, hm, if_false]; rfl

/-- Twice the middle between a rung and the next, as a number. -/
def mid2 (r : Nat) : Rat := ((rv f r + rv f (r + 1) : Nat) : Rat) * P f.leastPlace

theorem kept_gt (neg : Bool) (m : Nat) (place L : Int) (c : Nat) :
    c < Toward.even.cut neg (m <<< (place - L).toNat) (L - place).toNat ↔ ((2 * c + 1 : Nat) : Rat) * P L < 2 * (m * P place) ∨ (((2 * c + 1 : Nat) : Rat) * P L = 2 * (m * P place) ∧ c % 2 = 1) := by
  rw [cut_gt]
  have hD : (0 : Rat) < ((2 ^ (L - place).toNat : Nat) : Rat) := by
    have := Nat.two_pow_pos (L - place).toNat
    exact_mod_cast this
  have hPL := P_pos L
  have key : ((2 * (m <<< (place - L).toNat) : Nat) : Rat) * P L = 2 * (m * P place) * ((2 ^ (L - place).toNat : Nat) : Rat) := by
    by_cases h : L ≤ place
    · have e1 : (L - place).toNat = 0 := by omega
      have e2 : place = L + (place - L).toNat := by omega
      have e3 : P place = P L * ((2 ^ (place - L).toNat : Nat) : Rat) := by
        rw [← P_nat, ← P_add, ← e2]
      rw [e1, Nat.shiftLeft_eq, e3]
      simp only [Rat.natCast_mul]
      grind
    · have e1 : (place - L).toNat = 0 := by omega
      have e2 : L = place + (L - place).toNat := by omega
      have e3 : P L = P place * ((2 ^ (L - place).toNat : Nat) : Rat) := by
        rw [← P_nat, ← P_add, ← e2]
      rw [e1, Nat.shiftLeft_zero, e3]
      simp only [Rat.natCast_mul]
      grind
  have a1 : (2 * c + 1) * 2 ^ (L - place).toNat < 2 * (m <<< (place - L).toNat) ↔ ((2 * c + 1 : Nat) : Rat) * P L < 2 * (m * P place) := by
    rw [← mul_lt_iff hD, ← key]
    rw [← Rat.natCast_lt_natCast, ← mul_lt_iff hPL, Rat.natCast_mul (2 * c + 1)]
    grind
  have a2 : (2 * c + 1) * 2 ^ (L - place).toNat = 2 * (m <<< (place - L).toNat) ↔ ((2 * c + 1 : Nat) : Rat) * P L = 2 * (m * P place) := by
    rw [← mul_eq_iff hD, ← key]
    rw [← Rat.natCast_inj, ← mul_eq_iff hPL, Rat.natCast_mul (2 * c + 1)]
    grind
  rw [a1, a2]

theorem rung_gt (hfb : 1 ≤ f.fractionBits) (neg : Bool) {m : Nat} (hm : m ≠ 0) (place : Int) (r : Nat) :
    r < rungOf f neg m place ↔ mid2 f r < 2 * (m * P place) ∨ (mid2 f r = 2 * (m * P place) ∧ r % 2 = 1) := by
  have hb := binade_pos f
  have hbe : f.binade % 2 = 0 := by
    unfold Format.binade
    obtain ⟨n, hn⟩ : ∃ n, f.fractionBits = n + 1 := ⟨f.fractionBits - 1, by omega⟩
    rw [hn, Nat.pow_succ]; omega
  have hbP : P f.fractionBits = (f.binade : Rat) := P_nat _
  have hL : last f m place = max (place + m.log2 - f.fractionBits) f.leastPlace := rfl
  have hK := kept_gt neg m place (last f m place)
  unfold rungOf
  generalize Toward.even.cut neg (m <<< (place - last f m place).toNat) (last f m place - place).toNat = kept at hK
  generalize last f m place = L at hL hK
  -- the bounds on the number
  have hup : (m : Rat) * P place < 2 * (f.binade : Rat) * P L := by
    have h1 : m < 2 ^ (m.log2 + 1) := Nat.lt_log2_self
    have h2 : (m : Rat) < ((2 ^ (m.log2 + 1) : Nat) : Rat) := by exact_mod_cast h1
    rw [← P_nat] at h2
    have h3 := (mul_lt_iff (P_pos place)).2 h2
    rw [← P_add] at h3
    have h4 : P (((m.log2 + 1 : Nat) : Int) + place) ≤ P (((1 : Nat) : Int) + f.fractionBits + L) := P_le (by omega)
    rw [P_add _ L, P_add ((1 : Nat) : Int), hbP, P_nat 1] at h4
    have e : ((2 ^ 1 : Nat) : Rat) = 2 := rfl
    rw [e] at h4
    grind
  have hlo : f.leastPlace < L → (f.binade : Rat) * P L ≤ (m : Rat) * P place := by
    intro h
    have h1 : 2 ^ m.log2 ≤ m := Nat.log2_self_le hm
    have h2 : ((2 ^ m.log2 : Nat) : Rat) ≤ (m : Rat) := by exact_mod_cast h1
    rw [← P_nat] at h2
    have h3 := (mul_le_iff (P_pos place)).2 h2
    rw [← P_add] at h3
    have h4 : ((m.log2 : Nat) : Int) + place = f.fractionBits + L := by omega
    rw [h4, P_add, hbP] at h3
    exact h3
  generalize (m : Rat) * P place = x at *
  obtain ⟨k, hk⟩ : ∃ k : Nat, L = f.leastPlace + k := ⟨(L - f.leastPlace).toNat, by omega⟩
  have hPL : P L = P f.leastPlace * ((2 ^ k : Nat) : Rat) := by rw [hk, P_add, P_nat]
  have hk' : (L - f.leastPlace).toNat = k := by omega
  rw [hk']
  have hPp := P_pos L
  have hlp := P_pos f.leastPlace
  obtain ⟨j, c, rfl, hj, hc⟩ := split_rung f r
  have hmid : mid2 f (j * f.binade + c) = ((2 * c + 1 : Nat) : Rat) * (P f.leastPlace * ((2 ^ j : Nat) : Rat)) := by
    unfold mid2
    rw [Nat.add_assoc (j * f.binade), rv_at f hj (by omega), rv_at f (by omega) (by omega), ← Nat.add_mul, Rat.natCast_mul]
    have e : c + (c + 1) = 2 * c + 1 := by omega
    rw [e]; grind
  rw [hmid]
  have hpar : (j * f.binade + c) % 2 = c % 2 := by
    rw [Nat.add_mod, Nat.mul_mod, hbe]; simp
  rw [hpar]
  rcases Nat.lt_trichotomy j k with h | h | h
  · -- below: it is above
    have hx := hlo (by omega)
    have hkept : f.binade ≤ kept := by
      have : f.binade - 1 < kept := by
        rw [hK]; left
        have e : ((2 * (f.binade - 1) + 1 : Nat) : Rat) = 2 * (f.binade : Rat) - 1 := by
          have : 2 * (f.binade - 1) + 1 + 1 = 2 * f.binade := by omega
          have h1 : ((2 * (f.binade - 1) + 1 + 1 : Nat) : Rat) = ((2 * f.binade : Nat) : Rat) := by rw [this]
          rw [Rat.natCast_add, Rat.natCast_mul] at h1
          grind
        rw [e]; grind
      omega
    have hkj : j * f.binade + f.binade ≤ k * f.binade := by
      rw [← Nat.succ_mul]; exact Nat.mul_le_mul_right _ h
    refine ⟨fun _ => .inl ?_, fun _ => by omega⟩
    have h2 : 2 ^ j * 2 ≤ 2 ^ k := by rw [← Nat.pow_succ]; exact Nat.pow_le_pow_right (by omega) h
    have h3 : (((2 ^ j * 2 : Nat) : Nat) : Rat) ≤ ((2 ^ k : Nat) : Rat) := by exact_mod_cast h2
    rw [Rat.natCast_mul] at h3
    have h4 := Rat.mul_le_mul_of_nonneg_left h3 (Rat.le_of_lt hlp)
    rw [← hPL] at h4
    have h5 : 2 * c + 1 < 4 * f.binade := by omega
    have h6 : ((2 * c + 1 : Nat) : Rat) < ((4 * f.binade : Nat) : Rat) := by exact_mod_cast h5
    have hjp : (0 : Rat) < P f.leastPlace * ((2 ^ j : Nat) : Rat) := by
      rw [← P_nat]; exact Rat.mul_pos hlp (P_pos _)
    have h7 := (mul_lt_iff hjp).2 h6
    have h8 : (f.binade : Rat) * (P f.leastPlace * (((2 ^ j : Nat) : Rat) * 2)) ≤ (f.binade : Rat) * P L :=
      Rat.mul_le_mul_of_nonneg_left h4 (by have : 0 ≤ f.binade := by omega
                                           exact_mod_cast this)
    rw [Rat.natCast_mul] at h7
    grind
  · subst h
    rw [← hPL, ← hK]; omega
  · -- above: it is not
    have hkept : kept ≤ 2 * f.binade := by
      apply Nat.le_of_not_lt
      rw [hK]
      have e : ((2 * (2 * f.binade) + 1 : Nat) : Rat) = 4 * (f.binade : Rat) + 1 := by
        rw [Rat.natCast_add, ← Nat.mul_assoc, Rat.natCast_mul]; rfl
      rw [e]; grind
    have hkj : k * f.binade + f.binade ≤ j * f.binade := by
      rw [← Nat.succ_mul]; exact Nat.mul_le_mul_right _ h
    have hbc : f.binade ≤ c := by omega
    have h2 : 2 ^ k * 2 ≤ 2 ^ j := by rw [← Nat.pow_succ]; exact Nat.pow_le_pow_right (by omega) h
    have h3 : (((2 ^ k * 2 : Nat) : Nat) : Rat) ≤ ((2 ^ j : Nat) : Rat) := by exact_mod_cast h2
    rw [Rat.natCast_mul] at h3
    have h4 := Rat.mul_le_mul_of_nonneg_left h3 (Rat.le_of_lt hlp)
    have e0 : P f.leastPlace * (((2 ^ k : Nat) : Rat) * ((2 : Nat) : Rat)) = P L * 2 := by rw [hPL]; grind
    rw [e0] at h4
    have h5 : 2 * f.binade ≤ 2 * c + 1 := by omega
    have h6 : ((2 * f.binade : Nat) : Rat) ≤ ((2 * c + 1 : Nat) : Rat) := by exact_mod_cast h5
    have hjp : (0 : Rat) < P f.leastPlace * ((2 ^ j : Nat) : Rat) := by
      rw [← P_nat]; exact Rat.mul_pos hlp (P_pos _)
    have h7 := (mul_le_iff hjp).2 h6
    have h8 : (f.binade : Rat) * (P L * 2) ≤ (f.binade : Rat) * (P f.leastPlace * ((2 ^ j : Nat) : Rat)) :=
      Rat.mul_le_mul_of_nonneg_left h4 (by have : 0 ≤ f.binade := by omega
                                           exact_mod_cast this)
    rw [Rat.natCast_mul] at h7
    refine ⟨fun _ => by omega, fun hh => ?_⟩
    grind

/-- What a number is rounded to, of all rungs. -/
def Rounds (x : Rat) (R : Nat) : Prop := ∀ z, z < R ↔ mid2 f z < 2 * x ∨ (mid2 f z = 2 * x ∧ z % 2 = 1)

theorem Rounds.mono {f : Format} {x y : Rat} {R S : Nat} (h : x ≤ y) (hx : Rounds f x R) (hy : Rounds f y S) : R ≤ S := by
  apply Nat.le_of_not_lt
  intro hlt
  have h1 := (hx S).1 hlt
  have h2 : S < S := (hy S).2 (by rcases h1 with h1 | ⟨h1, h3⟩ <;> by_cases e : mid2 f S < 2 * y <;> grind)
  omega
theorem Rounds.same {f : Format} {x : Rat} {R S : Nat} (hx : Rounds f x R) (hy : Rounds f x S) : R = S :=
  Nat.le_antisymm (hx.mono (Rat.le_refl) hy) (hy.mono (Rat.le_refl) hx)

theorem mid2_pos (z : Nat) : 0 < mid2 f z := by
  have h : 0 < rv f z + rv f (z + 1) := by have := rv_lt f (r := z) (q := z + 1) (by omega); omega
  have h2 : (0 : Rat) < ((rv f z + rv f (z + 1) : Nat) : Rat) := by exact_mod_cast h
  exact Rat.mul_pos h2 (P_pos _)

theorem rounds_zero : Rounds f 0 0 := by
  intro z
  have := mid2_pos f z
  grind

theorem rounds_exact (r : Nat) : Rounds f (rv f r * P f.leastPlace) r := by
  intro z
  have e : ∀ a b : Nat, (a : Rat) * P f.leastPlace < 2 * ((b : Rat) * P f.leastPlace) ↔ a < 2 * b := by
    intro a b
    have e1 : 2 * ((b : Rat) * P f.leastPlace) = ((2 * b : Nat) : Rat) * P f.leastPlace := by rw [Rat.natCast_mul]; grind
    rw [e1, mul_lt_iff (P_pos _), Rat.natCast_lt_natCast]
  have e' : ∀ a b : Nat, (a : Rat) * P f.leastPlace = 2 * ((b : Rat) * P f.leastPlace) ↔ a = 2 * b := by
    intro a b
    have e1 : 2 * ((b : Rat) * P f.leastPlace) = ((2 * b : Nat) : Rat) * P f.leastPlace := by rw [Rat.natCast_mul]; grind
    rw [e1, mul_eq_iff (P_pos _), Rat.natCast_inj]
  unfold mid2
  rw [e, e']
  have h0 := rv_lt f (r := z) (q := z + 1) (by omega)
  constructor
  · intro h
    have := rv_le f (r := z + 1) (q := r) (by omega)
    left; omega
  · intro h
    apply Nat.lt_of_not_le
    intro hle
    have := rv_le f hle
    omega

theorem rounds_nearest (hfb : 1 ≤ f.fractionBits) (neg : Bool) (m : Nat) (place : Int) :
    ∃ R, f.nearest neg m place = f.word neg (min R f.infRung) ∧ Rounds f (m * P place) R := by
  by_cases hm : m = 0
  · subst hm
    refine ⟨0, by simp [Format.nearest], ?_⟩
    have e : ((0 : Nat) : Rat) * P place = 0 := by
      have : ((0 : Nat) : Rat) = 0 := rfl
      rw [this]; grind
    rw [e]; exact rounds_zero f
  · exact ⟨_, nearest_eq f neg hm place, fun z => rung_gt f hfb neg hm place z⟩

theorem sw_eq : f.infRung + f.binade = f.signWeight := f.infRung_add_binade

theorem read_word (s : Bool) {r : Nat} (h : r < f.infRung) : f.read (f.word s r) = .number s (mag f r) (f.leastPlace + sh f r) := by
  have hs := sw_eq f
  have hb := binade_pos f
  have h0 : 0 < f.signWeight := by omega
  have h1 : f.word s r % f.signWeight = r := by
    cases s
    · simp [Format.word, Nat.mod_eq_of_lt (show r < f.signWeight by omega)]
    · simp [Format.word, Nat.mod_eq_of_lt (show r < f.signWeight by omega)]
  have h2 : (f.word s r / f.signWeight % 2 == 1) = s := by
    cases s
    · simp [Format.word, Nat.div_eq_of_lt (show r < f.signWeight by omega)]
    · have : (f.signWeight + r) / f.signWeight = 1 := by
        rw [Nat.add_div_left _ h0, Nat.div_eq_of_lt (show r < f.signWeight by omega)]
      simp [Format.word, this]
  unfold Format.read
  simp only [h1, h2]
  by_cases hb : r < f.binade
  · simp [hb, mag, sh]
  · simp [hb, h, mag, sh]

theorem read_inf (s : Bool) (he : 1 ≤ f.exponentBits) : f.read (f.word s f.infRung) = .infinity s := by
  have hs := sw_eq f
  have hb := binade_pos f
  have h0 : 0 < f.signWeight := by omega
  have h3 : f.binade ≤ f.infRung := by
    unfold Format.infRung
    have : 2 ^ 1 ≤ 2 ^ f.exponentBits := Nat.pow_le_pow_right (by omega) he
    exact Nat.le_mul_of_pos_left _ (by omega)
  have h1 : f.word s f.infRung % f.signWeight = f.infRung := by
    cases s
    · simp [Format.word, Nat.mod_eq_of_lt (show f.infRung < f.signWeight by omega)]
    · simp [Format.word, Nat.mod_eq_of_lt (show f.infRung < f.signWeight by omega)]
  have h2 : (f.word s f.infRung / f.signWeight % 2 == 1) = s := by
    cases s
    · simp [Format.word, Nat.div_eq_of_lt (show f.infRung < f.signWeight by omega)]
    · have : (f.signWeight + f.infRung) / f.signWeight = 1 := by
        rw [Nat.add_div_left _ h0, Nat.div_eq_of_lt (show f.infRung < f.signWeight by omega)]
      simp [Format.word, this]
  unfold Format.read
  simp only [h1, h2]
  rw [if_neg (by omega), if_neg (by omega), if_pos trivial]

theorem compare_congr {a b c d : Int} (h1 : a < b ↔ c < d) (h2 : a = b ↔ c = d) : compare a b = compare c d := by
  show compareOfLessAndEq a b = compareOfLessAndEq c d
  unfold compareOfLessAndEq
  by_cases x : a < b
  · rw [if_pos x, if_pos (h1.1 x)]
  · rw [if_neg x, if_neg (fun h => x (h1.2 h))]
    by_cases y : a = b
    · rw [if_pos y, if_pos (h2.1 y)]
    · rw [if_neg y, if_neg (fun h => y (h2.2 h))]

/-- A rung with its sign, as a number. -/
def sr (s : Bool) (r : Nat) : Int := if s then -(r : Int) else r

theorem signed_scale (s : Bool) (m a e : Nat) (h : e ≤ a) : signed s m (a - e) * (2 ^ e : Nat) = sr s (m * 2 ^ a) := by
  have : m <<< (a - e) * 2 ^ e = m * 2 ^ a := by
    rw [Nat.shiftLeft_eq, Nat.mul_assoc, ← Nat.pow_add]; congr 2; omega
  cases s
  · simp only [signed, sr, if_false, Bool.false_eq_true, ← this]; simp
  · simp only [signed, sr, if_true, ← this]; simp [Int.neg_mul]

theorem sr_mono {f : Format} (s t : Bool) (r q : Nat) : (sr s (rv f r) < sr t (rv f q) ↔ sr s r < sr t q) ∧ (sr s (rv f r) = sr t (rv f q) ↔ sr s r = sr t q) := by
  have z := rv_zero f
  have hr : r = 0 ∧ rv f r = 0 ∨ 0 < r ∧ 0 < rv f r := by
    by_cases h : r = 0
    · subst h; exact .inl ⟨rfl, z⟩
    · have := rv_lt f (r := 0) (q := r) (by omega); exact .inr ⟨by omega, by omega⟩
  have hq : q = 0 ∧ rv f q = 0 ∨ 0 < q ∧ 0 < rv f q := by
    by_cases h : q = 0
    · subst h; exact .inl ⟨rfl, z⟩
    · have := rv_lt f (r := 0) (q := q) (by omega); exact .inr ⟨by omega, by omega⟩
  have hrq : r < q ∧ rv f r < rv f q ∨ r = q ∧ rv f r = rv f q ∨ q < r ∧ rv f q < rv f r := by
    rcases Nat.lt_trichotomy r q with h | h | h
    · exact .inl ⟨h, rv_lt f h⟩
    · subst h; exact .inr (.inl ⟨rfl, rfl⟩)
    · exact .inr (.inr ⟨h, rv_lt f h⟩)
  cases s <;> cases t <;> simp only [sr, if_true, if_false, Bool.false_eq_true] <;> omega

theorem order_word (he : 1 ≤ f.exponentBits) (s t : Bool) {r q : Nat} (hr : r ≤ f.infRung) (hq : q ≤ f.infRung) :
    f.order (f.word s r) (f.word t q) = some (compare (sr s r) (sr t q)) := by
  unfold Format.order
  have hpos : 0 < f.infRung := by
    unfold Format.infRung
    have : 2 ^ 1 ≤ 2 ^ f.exponentBits := Nat.pow_le_pow_right (by omega) he
    exact Nat.mul_pos (by omega) (binade_pos f)
  by_cases h1 : r < f.infRung
  · rw [read_word f s h1]
    by_cases h2 : q < f.infRung
    · rw [read_word f t h2]
      unfold Datum.order
      simp only
      congr 1
      apply compare_congr
      all_goals
        have em : min (f.leastPlace + (sh f r : Int)) (f.leastPlace + (sh f q : Int)) = f.leastPlace + (min (sh f r) (sh f q) : Nat) := by omega
        rw [em]
        have e1 : (f.leastPlace + (sh f r : Int) - (f.leastPlace + ((min (sh f r) (sh f q) : Nat) : Int))).toNat = sh f r - min (sh f r) (sh f q) := by omega
        have e2 : (f.leastPlace + (sh f q : Int) - (f.leastPlace + ((min (sh f r) (sh f q) : Nat) : Int))).toNat = sh f q - min (sh f r) (sh f q) := by omega
        rw [e1, e2]
        have a1 := signed_scale s (mag f r) (sh f r) (min (sh f r) (sh f q)) (Nat.min_le_left ..)
        have a2 := signed_scale t (mag f q) (sh f q) (min (sh f r) (sh f q)) (Nat.min_le_right ..)
        have hp : (0 : Int) < ((2 ^ min (sh f r) (sh f q) : Nat) : Int) := by
          have := Nat.two_pow_pos (min (sh f r) (sh f q)); omega
        have k := sr_mono (f := f) s t r q
        unfold rv at k
        rw [← a1, ← a2] at k
        generalize ((2 ^ min (sh f r) (sh f q) : Nat) : Int) = g at *
      · rw [← k.1]
        exact ⟨fun h => Int.mul_lt_mul_of_pos_right h hp, fun h => Int.lt_of_mul_lt_mul_right h (Int.le_of_lt hp)⟩
      · rw [← k.2]
        exact ⟨fun h => by rw [h], fun h => Int.eq_of_mul_eq_mul_right (by omega) h⟩
    · obtain rfl : q = f.infRung := by omega
      rw [read_inf f t he]
      unfold Datum.order
      simp only
      congr 1
      have : ∀ a b : Int, compare a b = compareOfLessAndEq a b := fun _ _ => rfl
      rw [this]; unfold compareOfLessAndEq
      cases t <;> simp only [sr, if_true, if_false, Bool.false_eq_true]
      · rw [if_pos (by cases s <;> simp <;> omega)]
      · rw [if_neg (by cases s <;> simp <;> omega), if_neg (by cases s <;> simp <;> omega)]
  · obtain rfl : r = f.infRung := by omega
    rw [read_inf f s he]
    have : ∀ a b : Int, compare a b = compareOfLessAndEq a b := fun _ _ => rfl
    by_cases h2 : q < f.infRung
    · rw [read_word f t h2]
      unfold Datum.order
      simp only
      congr 1
      rw [this]; unfold compareOfLessAndEq
      cases s <;> simp only [sr, if_true, if_false, Bool.false_eq_true]
      · rw [if_neg (by cases t <;> simp <;> omega), if_neg (by cases t <;> simp <;> omega)]
      · rw [if_pos (by cases t <;> simp <;> omega)]
    · obtain rfl : q = f.infRung := by omega
      rw [read_inf f t he]
      unfold Datum.order
      simp only
      congr 1
      rw [this]; unfold compareOfLessAndEq
      cases s <;> cases t <;> simp [sr] <;> first | rfl | (rw [if_pos (by omega)]; rfl) | (rw [if_neg (by omega), if_neg (by omega)]; rfl)

theorem rounds_div (hfb : 1 ≤ f.fractionBits) (s t : Bool) {r q : Nat} (hr : r < f.infRung) (hq : q < f.infRung) (h0 : q ≠ 0) :
    ∃ R, f.div (f.word s r) (f.word t q) = some (f.word (s ^^ t) (min R f.infRung)) ∧ Rounds f ((rv f r : Rat) / (rv f q : Rat)) R := by
  have hn : mag f q ≠ 0 := by
    unfold mag; have := binade_pos f; split <;> omega
  have hY : (0 : Rat) < (rv f q : Rat) := by
    have := rv_lt f (r := 0) (q := q) (by omega)
    have h2 : 0 < rv f q := by omega
    exact_mod_cast h2
  unfold Format.div
  rw [read_word f s hr, read_word f t hq]
  unfold Datum.quotient
  simp only [hn, if_false, Option.map_some, Format.write]
  by_cases hm : mag f r = 0
  · refine ⟨0, ?_, ?_⟩
    · rw [hm]
      simp [Format.nearest]
    · have e : (rv f r : Rat) = 0 := by unfold rv; rw [hm]; simp
      rw [e, Rat.div_def, Rat.zero_mul]; exact rounds_zero f
  · -- the quotient with its sticky digit
    generalize hmore : f.fractionBits + 2 + (mag f q).log2 - (mag f r).log2 = more
    have hD : (mag f r) <<< more = mag f r * 2 ^ more := Nat.shiftLeft_eq ..
    rw [hD]
    have hrv : rv f r = mag f r * 2 ^ sh f r := rfl
    have hqv : rv f q = mag f q * 2 ^ sh f q := rfl
    generalize sh f r = i at *
    generalize sh f q = j at *
    generalize mag f r = m at *
    generalize mag f q = n at *
    have hbig : 2 * f.binade ≤ m * 2 ^ more / n := by
      rw [Nat.le_div_iff_mul_le (by omega)]
      have h1 : 2 ^ m.log2 ≤ m := Nat.log2_self_le hm
      have h2 : n < 2 ^ (n.log2 + 1) := Nat.lt_log2_self
      have h3 : 2 * f.binade * n ≤ 2 * f.binade * 2 ^ (n.log2 + 1) := Nat.mul_le_mul_left _ (by omega)
      have h4 : 2 * f.binade * 2 ^ (n.log2 + 1) = 2 ^ (f.fractionBits + 2 + n.log2) := by
        unfold Format.binade
        rw [show 2 * 2 ^ f.fractionBits = 2 ^ (f.fractionBits + 1) from by rw [Nat.pow_succ]; omega, ← Nat.pow_add]
        congr 1; omega
      have h5 : 2 ^ (f.fractionBits + 2 + n.log2) ≤ 2 ^ (m.log2 + more) := Nat.pow_le_pow_right (by omega) (by omega)
      have h6 : 2 ^ (m.log2 + more) ≤ m * 2 ^ more := by rw [Nat.pow_add]; exact Nat.mul_le_mul_right _ h1
      omega
    have hdm := Nat.div_add_mod (m * 2 ^ more) n
    have hlt := Nat.mod_lt (m * 2 ^ more) (Nat.pos_of_ne_zero hn)
    have hS : 2 * (m * 2 ^ more / n) + (m * 2 ^ more % n != 0).toNat ≠ 0 := by have := binade_pos f; omega
    refine ⟨_, congrArg some (nearest_eq f (s ^^ t) hS _), fun z => ?_⟩
    rw [rung_gt f hfb _ hS]
    -- the value of the quotient
    generalize hpl : f.leastPlace + (i : Int) - (f.leastPlace + (j : Int)) - (more : Int) - 1 = pl
    have hval : (rv f r : Rat) / (rv f q : Rat) * (n : Rat) = ((m * 2 ^ more : Nat) : Rat) * P (pl + 1) := by
      have e1 : (rv f r : Rat) = (rv f r : Rat) / (rv f q : Rat) * (rv f q : Rat) := by
        rw [Rat.div_mul_cancel]; grind
      have e2 : P (pl + 1) * P more * P j = P i := by
        rw [← P_add, ← P_add]; congr 1; omega
      have e3 : (rv f r : Rat) = (m : Rat) * P i := by rw [hrv, Rat.natCast_mul, P_nat]
      have e4 : (rv f q : Rat) = (n : Rat) * P j := by rw [hqv, Rat.natCast_mul, P_nat]
      rw [← mul_eq_iff (P_pos j), Rat.natCast_mul, ← P_nat]
      rw [e4] at e1 ⊢
      rw [e3, ← e2] at e1
      grind
    generalize (rv f r : Rat) / (rv f q : Rat) = x at *
    have hu := P_pos (pl + 1)
    have e2S : 2 * (((2 * (m * 2 ^ more / n) + (m * 2 ^ more % n != 0).toNat : Nat) : Rat) * P pl) = ((2 * (m * 2 ^ more / n) + (m * 2 ^ more % n != 0).toNat : Nat) : Rat) * P (pl + 1) := by
      rw [P_add pl 1, show P 1 = 2 from by rfl]; grind
    rw [e2S]
    generalize hueq : P (pl + 1) = u at *
    have hn' : (0 : Rat) < (n : Rat) := by exact_mod_cast Nat.pos_of_ne_zero hn
    obtain ⟨k, c, rfl, hk, hc⟩ := split_rung f z
    have hmid : mid2 f (k * f.binade + c) = ((2 * c + 1 : Nat) : Rat) * P (f.leastPlace + k) := by
      unfold mid2
      rw [Nat.add_assoc (k * f.binade), rv_at f hk (by omega), rv_at f (by omega) (by omega), ← Nat.add_mul, Rat.natCast_mul, P_add, P_nat]
      have e : c + (c + 1) = 2 * c + 1 := by omega
      rw [e]; grind
    rw [hmid]
    generalize m * 2 ^ more / n = F at *
    generalize m * 2 ^ more % n = ρ at *
    generalize m * 2 ^ more = D at *
    generalize (k * f.binade + c) % 2 = par at *
    by_cases hcase : pl + 2 ≤ f.leastPlace + k
    · -- the middle is a multiple of the step
      obtain ⟨e, he⟩ : ∃ e : Nat, ((2 * c + 1 : Nat) : Rat) * P (f.leastPlace + k) = ((2 * e : Nat) : Rat) * u := by
        obtain ⟨w, hw⟩ : ∃ w : Nat, f.leastPlace + (k : Int) = 1 + w + (pl + 1) := ⟨(f.leastPlace + (k : Int) - pl - 2).toNat, by omega⟩
        refine ⟨(2 * c + 1) * 2 ^ w, ?_⟩
        rw [hw, P_add _ (pl + 1), P_add 1, P_nat w, hueq, show P 1 = 2 from by rfl, Rat.natCast_mul 2, Rat.natCast_mul (2 * c + 1)]
        grind
      rw [he]
      have a1 : ((2 * e : Nat) : Rat) * u < ((2 * F + (ρ != 0).toNat : Nat) : Rat) * u ↔ e * n < D := by
        rw [mul_lt_iff hu, Rat.natCast_lt_natCast]
        rw [← hdm]
        by_cases h : ρ = 0
        · subst h
          simp only [bne_self_eq_false, Bool.toNat_false, Nat.add_zero, Nat.mul_comm n]
          exact ⟨fun h => Nat.mul_lt_mul_of_pos_right (by omega) (by omega), fun h => by have := Nat.lt_of_mul_lt_mul_right h; omega⟩
        · have e0 : (ρ != 0) = true := by simp [h]
          rw [e0, Bool.toNat_true, Nat.mul_comm n]
          constructor
          · intro h
            have := Nat.mul_le_mul_right n (show e ≤ F by omega)
            omega
          · intro h
            have : e < F + 1 := Nat.lt_of_mul_lt_mul_right (a := n) (by rw [Nat.succ_mul]; omega)
            omega
      have a2 : ((2 * e : Nat) : Rat) * u = ((2 * F + (ρ != 0).toNat : Nat) : Rat) * u ↔ e * n = D := by
        rw [mul_eq_iff hu, Rat.natCast_inj]
        rw [← hdm]
        by_cases h : ρ = 0
        · subst h
          simp only [bne_self_eq_false, Bool.toNat_false, Nat.add_zero, Nat.mul_comm n]
          exact ⟨fun h => by congr 1; omega, fun h => by have := Nat.eq_of_mul_eq_mul_right (by omega) h; omega⟩
        · have e0 : (ρ != 0) = true := by simp [h]
          rw [e0, Bool.toNat_true, Nat.mul_comm n]
          constructor
          · omega
          · intro h
            exfalso
            rcases Nat.lt_or_ge F e with h1 | h1
            · have := Nat.mul_le_mul_right n (show F + 1 ≤ e by omega)
              rw [Nat.succ_mul] at this; omega
            · have := Nat.mul_le_mul_right n h1; omega
      have e2 : ((2 * e : Nat) : Rat) * u * (n : Rat) = 2 * (((e * n : Nat) : Rat) * u) := by
        rw [Rat.natCast_mul, Rat.natCast_mul, show ((2 : Nat) : Rat) = 2 from rfl]; grind
      have e3 : 2 * x * (n : Rat) = 2 * ((D : Rat) * u) := by rw [← hval]; grind
      have b1 : ((2 * e : Nat) : Rat) * u < 2 * x ↔ e * n < D := by
        rw [← mul_lt_iff hn', e2, e3, ← Rat.natCast_lt_natCast, ← mul_lt_iff (a := ((e * n : Nat) : Rat)) (b := (D : Rat)) hu]
        generalize ((e * n : Nat) : Rat) * u = A
        generalize (D : Rat) * u = B
        constructor <;> intro _ <;> grind
      have b2 : ((2 * e : Nat) : Rat) * u = 2 * x ↔ e * n = D := by
        rw [← mul_eq_iff hn', e2, e3, ← Rat.natCast_inj, ← mul_eq_iff (a := ((e * n : Nat) : Rat)) (b := (D : Rat)) hu]
        generalize ((e * n : Nat) : Rat) * u = A
        generalize (D : Rat) * u = B
        constructor <;> intro _ <;> grind
      rw [a1, a2, b1, b2]
    · -- far below
      have h1 : P (f.leastPlace + k) ≤ u := by rw [← hueq]; exact P_le (by omega)
      have h2 : ((2 * c + 1 : Nat) : Rat) * P (f.leastPlace + k) ≤ ((2 * c + 1 : Nat) : Rat) * u :=
        Rat.mul_le_mul_of_nonneg_left h1 (by have : 0 ≤ 2 * c + 1 := by omega
                                             exact_mod_cast this)
      have h3 : 2 * c + 1 < 2 * F := by omega
      have h4 : ((2 * c + 1 : Nat) : Rat) < ((2 * F : Nat) : Rat) := by exact_mod_cast h3
      have h5 := (mul_lt_iff hu).2 h4
      have h6 : ((2 * F : Nat) : Rat) ≤ ((2 * F + (ρ != 0).toNat : Nat) : Rat) := by
        have : 2 * F ≤ 2 * F + (ρ != 0).toNat := by omega
        exact_mod_cast this
      have h7 := (mul_le_iff hu).2 h6
      have h8 : ((2 * F : Nat) : Rat) * u ≤ 2 * x := by
        rw [← mul_le_iff hn']
        have h9 : n * F ≤ D := by omega
        have h10 : ((n * F : Nat) : Rat) ≤ (D : Rat) := by exact_mod_cast h9
        have h11 := (mul_le_iff hu).2 h10
        rw [Rat.natCast_mul] at h11
        rw [Rat.natCast_mul]
        have : ((2 : Nat) : Rat) = 2 := rfl
        rw [this]; grind
      constructor <;> intro _ <;> left <;> grind

/-! ### doubles -/
def D : Format := Ieee.double
theorem D_fb : D.fractionBits = 52 := rfl
theorem D_lp : D.leastPlace = -1074 := by decide
theorem D_bin : D.binade = 2 ^ 52 := rfl
theorem D_inf : D.infRung = 2047 * 2 ^ 52 := rfl

/-- The bits of an integer. -/
def fi (n : Int) : Nat := D.nearest (decide (n < 0)) n.natAbs 0

theorem exact_small {n : Nat} (h : n < 2 ^ 64) (hd : n < 2 ^ 53 ∨ n = 2 ^ 63) : ∃ r, r < D.infRung ∧ (rv D r : Rat) * P D.leastPlace = n := by
  by_cases h0 : n = 0
  · subst h0; exact ⟨0, by decide, by rw [rv_zero]; simp⟩
  · have hl1 : 2 ^ n.log2 ≤ n := Nat.log2_self_le h0
    have hl2 : n < 2 ^ (n.log2 + 1) := Nat.lt_log2_self
    have key : ∀ k c e : Nat, e = 1074 → k ≤ 1100 → D.binade ≤ c → c < 2 * D.binade → (c * 2 ^ k : Nat) = n * 2 ^ e → ∃ r, r < D.infRung ∧ (rv D r : Rat) * P D.leastPlace = n := by
      intro k c e he hk hc1 hc2 hv
      refine ⟨k * D.binade + c, ?_, ?_⟩
      · rw [D_inf]; rw [D_bin] at *; omega
      · rw [rv_at D (.inr hc1) (by omega), hv, Rat.natCast_mul, ← P_nat, D_lp, Rat.mul_assoc, ← P_add]
        rw [show (e : Int) + -1074 = 0 from by omega, show P 0 = 1 from by rfl, Rat.mul_one]
    rcases hd with hd | hd
    · have hlog : n.log2 ≤ 52 := by
        apply Nat.le_of_not_lt; intro hh
        have : 2 ^ 53 ≤ 2 ^ n.log2 := Nat.pow_le_pow_right (by omega) hh
        omega
      refine key (n.log2 + 1022) (n * 2 ^ (52 - n.log2)) (52 - n.log2 + (n.log2 + 1022)) (by omega) (by omega) ?_ ?_ ?_
      · rw [D_bin, show 2 ^ 52 = 2 ^ n.log2 * 2 ^ (52 - n.log2) from by rw [← Nat.pow_add]; congr 1; omega]
        exact Nat.mul_le_mul_right _ hl1
      · rw [D_bin, show 2 * 2 ^ 52 = 2 ^ (n.log2 + 1) * 2 ^ (52 - n.log2) from by rw [← Nat.pow_add, show n.log2 + 1 + (52 - n.log2) = 53 from by omega]]
        exact Nat.mul_lt_mul_of_pos_right hl2 (Nat.two_pow_pos _)
      · rw [Nat.mul_assoc, ← Nat.pow_add]
    · subst hd
      obtain ⟨k, hk⟩ : ∃ k : Nat, k = 1085 := ⟨_, rfl⟩
      exact key k (2 ^ 52) (k - 11) (by omega) (by omega) (by decide) (by decide) (by rw [← Nat.pow_add, ← Nat.pow_add]; congr 1; omega)

theorem fi_spec {n : Int} (h : n.natAbs ≤ 2 ^ 63) : ∃ R, R < D.infRung ∧ fi n = D.word (decide (n < 0)) R ∧ Rounds D (n.natAbs : Rat) R := by
  obtain ⟨R, h1, h2⟩ := rounds_nearest D (by decide) (decide (n < 0)) n.natAbs 0
  rw [show P 0 = 1 from by rfl, Rat.mul_one] at h2
  obtain ⟨r, hr, e⟩ := exact_small (n := 2 ^ 63) (by decide) (.inr rfl)
  have h3 : Rounds D ((2 ^ 63 : Nat) : Rat) r := by rw [← e]; exact rounds_exact D r
  have h4 : (n.natAbs : Rat) ≤ ((2 ^ 63 : Nat) : Rat) := by exact_mod_cast h
  have h5 := h2.mono h4 h3
  refine ⟨R, by omega, ?_, h2⟩
  rw [fi, h1, Nat.min_eq_left (by omega)]

theorem rounds_zero_inv {n : Nat} (h : Rounds D (n : Rat) 0) (hn : n < 2 ^ 64) : n = 0 := by
  by_cases h0 : n = 0
  · exact h0
  · obtain ⟨r, hr, e⟩ := exact_small (n := 1) (by decide) (.inl (by decide))
    have h3 : Rounds D ((1 : Nat) : Rat) r := by rw [← e]; exact rounds_exact D r
    have h4 : ((1 : Nat) : Rat) ≤ (n : Rat) := by
      have : 1 ≤ n := by omega
      exact_mod_cast this
    have h5 := h3.mono h4 h
    have h6 : r = 0 := by omega
    subst h6
    rw [rv_zero] at e
    exfalso; revert e; simp

/-- The number that a sign and a rung stand for, in the least units. -/
theorem add_word (s t : Bool) {r q : Nat} (hr : r < D.infRung) (hq : q < D.infRung) :
    ∃ R, D.add (D.word s r) (D.word t q) = some (D.word (if sr s (rv D r) + sr t (rv D q) = 0 then s && t else decide (sr s (rv D r) + sr t (rv D q) < 0)) (min R D.infRung)) ∧
      Rounds D (((sr s (rv D r) + sr t (rv D q)).natAbs : Nat) * P D.leastPlace) R := by
  unfold Format.add
  rw [read_word D s hr, read_word D t hq]
  unfold Datum.sum
  simp only [Option.map_some, Format.write]
  have em : min (D.leastPlace + (sh D r : Int)) (D.leastPlace + (sh D q : Int)) = D.leastPlace + (min (sh D r) (sh D q) : Nat) := by omega
  rw [em]
  have e1 : (D.leastPlace + (sh D r : Int) - (D.leastPlace + ((min (sh D r) (sh D q) : Nat) : Int))).toNat = sh D r - min (sh D r) (sh D q) := by omega
  have e2 : (D.leastPlace + (sh D q : Int) - (D.leastPlace + ((min (sh D r) (sh D q) : Nat) : Int))).toNat = sh D q - min (sh D r) (sh D q) := by omega
  rw [e1, e2]
  have a1 := signed_scale s (mag D r) (sh D r) (min (sh D r) (sh D q)) (Nat.min_le_left ..)
  have a2 := signed_scale t (mag D q) (sh D q) (min (sh D r) (sh D q)) (Nat.min_le_right ..)
  unfold rv
  rw [← a1, ← a2, ← Int.add_mul]
  generalize signed s (mag D r) (sh D r - min (sh D r) (sh D q)) + signed t (mag D q) (sh D q - min (sh D r) (sh D q)) = T
  generalize min (sh D r) (sh D q) = e
  have hp : (0 : Int) < ((2 ^ e : Nat) : Int) := by have := Nat.two_pow_pos e; omega
  have z0 : T * ((2 ^ e : Nat) : Int) = 0 ↔ T = 0 := by
    constructor
    · intro h
      rcases Int.mul_eq_zero.1 h with h | h
      · exact h
      · omega
    · intro h; rw [h]; simp
  have z1 : T * ((2 ^ e : Nat) : Int) < 0 ↔ T < 0 := by
    constructor
    · intro h
      apply Int.lt_of_not_ge; intro hh
      have := Int.mul_nonneg hh (Int.le_of_lt hp)
      omega
    · intro h; exact Int.mul_neg_of_neg_of_pos h hp
  simp only [z0, z1]
  obtain ⟨R, h1, h2⟩ := rounds_nearest D (by decide) (if T = 0 then s && t else decide (T < 0)) T.natAbs (D.leastPlace + (e : Int))
  refine ⟨R, by rw [h1], ?_⟩
  rw [Int.natAbs_mul, Int.natAbs_natCast, Rat.natCast_mul, ← P_nat]
  rw [P_add, ← Rat.mul_assoc] at h2
  rw [Rat.mul_assoc, Rat.mul_comm (P _), ← Rat.mul_assoc]
  exact h2

theorem sr_natAbs (s : Bool) (r : Nat) : (sr s r).natAbs = r := by cases s <;> simp [sr]

theorem zero_add_fi {n : Int} (h : n.natAbs ≤ 2 ^ 63) : D.add 0 (fi n) = some (fi n) := by
  obtain ⟨q, hq, e, hR⟩ := fi_spec h
  have e0 : (0 : Nat) = D.word false 0 := rfl
  rw [e, e0]
  obtain ⟨R, h1, h2⟩ := add_word false (decide (n < 0)) (r := 0) (q := q) (by decide) hq
  rw [h1]
  have z : sr false (rv D 0) = 0 := by rw [rv_zero]; rfl
  rw [z, Int.zero_add] at h2 ⊢
  rw [sr_natAbs] at h2
  have h3 := h2.same (rounds_exact D q)
  subst h3
  rw [Nat.min_eq_left (by omega)]
  congr 2
  by_cases hz : R = 0
  · subst hz
    have := rounds_zero_inv hR (by omega)
    have hn : n = 0 := by omega
    subst hn; simp [rv_zero, sr]
  · have hpos : 0 < rv D R := by have := rv_lt D (r := 0) (q := R) (by omega); omega
    rw [if_neg (by cases decide (n < 0) <;> simp [sr] <;> omega)]
    cases hd : decide (n < 0) <;> simp [sr] <;> omega

theorem fi_exact {n : Int} (h : n.natAbs < 2 ^ 53) : ∃ R, R < D.infRung ∧ fi n = D.word (decide (n < 0)) R ∧ (rv D R : Rat) * P D.leastPlace = n.natAbs := by
  obtain ⟨R, hR, e, hr⟩ := fi_spec (n := n) (by omega)
  obtain ⟨r, _, er⟩ := exact_small (n := n.natAbs) (by omega) (.inl h)
  have h3 := rounds_exact D r
  rw [er] at h3
  have := hr.same h3
  subst this
  exact ⟨R, hR, e, er⟩

theorem sr_val {n : Int} {r : Nat} (h : (rv D r : Rat) * P D.leastPlace = n.natAbs) : ((sr (decide (n < 0)) (rv D r) : Int) : Rat) * P D.leastPlace = n := by
  by_cases hn : n < 0
  · simp only [hn, decide_true, sr, if_true]
    have : ((n.natAbs : Int) : Rat) = ((-n : Int) : Rat) := by congr 1; omega
    have h' : (((rv D r : Nat) : Int) : Rat) * P D.leastPlace = ((n.natAbs : Int) : Rat) := h
    rw [this] at h'
    rw [Rat.intCast_neg] at *
    grind
  · simp only [hn, decide_false, sr, Bool.false_eq_true, if_false]
    have : ((n.natAbs : Int) : Rat) = ((n : Int) : Rat) := by congr 1; omega
    rw [← this]; exact h

theorem add_exact {a b : Int} (ha : a.natAbs < 2 ^ 53) (hb : b.natAbs < 2 ^ 53) (hab : (a + b).natAbs < 2 ^ 53) : D.add (fi a) (fi b) = some (fi (a + b)) := by
  obtain ⟨r, hr, e1, v1⟩ := fi_exact ha
  obtain ⟨q, hq, e2, v2⟩ := fi_exact hb
  obtain ⟨t, ht, e3, v3⟩ := fi_exact hab
  obtain ⟨R, h1, h2⟩ := add_word (decide (a < 0)) (decide (b < 0)) hr hq
  rw [e1, e2, e3, h1]
  have w1 := sr_val v1
  have w2 := sr_val v2
  have w3 := sr_val v3
  have hsum : sr (decide (a < 0)) (rv D r) + sr (decide (b < 0)) (rv D q) = sr (decide (a + b < 0)) (rv D t) := by
    have : ((sr (decide (a < 0)) (rv D r) + sr (decide (b < 0)) (rv D q) : Int) : Rat) = ((sr (decide (a + b < 0)) (rv D t) : Int) : Rat) := by
      rw [← mul_eq_iff (P_pos D.leastPlace), Rat.intCast_add, Rat.add_mul, w1, w2, w3, Rat.intCast_add]
    exact_mod_cast this
  rw [hsum] at h2 ⊢
  rw [sr_natAbs] at h2
  have := h2.same (rounds_exact D t)
  subst this
  rw [Nat.min_eq_left (by omega)]
  congr 2
  have z : R = 0 ↔ a + b = 0 := by
    constructor
    · intro h; subst h; rw [rv_zero] at v3
      have : ((0 : Nat) : Rat) = ((a + b).natAbs : Rat) := by rw [← v3]; simp
      have h0 : 0 = (a + b).natAbs := by exact_mod_cast this
      omega
    · intro h
      have h0 : (a + b).natAbs = 0 := by omega
      rw [h0] at v3
      by_cases hz : R = 0
      · exact hz
      · have hpos : 0 < rv D R := by have := rv_lt D (r := 0) (q := R) (by omega); omega
        have h3 : (0 : Rat) < (rv D R : Rat) := by exact_mod_cast hpos
        have h4 := Rat.mul_pos h3 (P_pos D.leastPlace)
        have : ((0 : Nat) : Rat) = 0 := rfl
        grind
  by_cases hz : a + b = 0
  · have := z.2 hz
    subst this
    rw [if_pos (by rw [rv_zero]; cases decide (a + b < 0) <;> rfl)]
    have : decide (a + b < 0) = false := by simp; omega
    rw [this]
    by_cases h : a < 0
    · have : decide (b < 0) = false := by simp; omega
      simp [this]
    · simp [h]
  · have hR : R ≠ 0 := fun h => hz (z.1 h)
    have hpos : 0 < rv D R := by have := rv_lt D (r := 0) (q := R) (by omega); omega
    rw [if_neg (by cases decide (a + b < 0) <;> simp [sr] <;> omega)]
    cases hd : decide (a + b < 0) <;> simp [sr] <;> omega

def NN : Nat := 0x7FF8000000000001
def nnB : Option Nat → Nat
  | some r => if D.order r r = some .eq then r else NN
  | none => NN
def partB (n all : Int) : Nat := nnB (D.div (fi n) (fi all))
def lessB (a b : Nat) : Bool := D.order a b == some .lt
def sumB (l : List Int) : Option Nat := l.foldl (fun o n => o.bind fun s => D.add s (fi n)) (some 0)
def meanB (l : List Int) : Nat := nnB ((sumB l).bind fun s => D.div s (fi l.length))

theorem nnB_word (s : Bool) {r : Nat} (h : r ≤ D.infRung) : nnB (some (D.word s r)) = D.word s r := by
  show (if D.order (D.word s r) (D.word s r) = some .eq then D.word s r else NN) = _
  rw [order_word D (by decide) s s h h]
  rw [show compare (sr s r) (sr s r) = Ordering.eq from by show compareOfLessAndEq _ _ = _; simp [compareOfLessAndEq]]
  rfl

theorem less_word (s t : Bool) {r q : Nat} (hr : r ≤ D.infRung) (hq : q ≤ D.infRung) (h : sr t q ≤ sr s r) : lessB (D.word s r) (D.word t q) = false := by
  unfold lessB
  rw [order_word D (by decide) s t hr hq]
  have : compare (sr s r) (sr t q) ≠ .lt := by
    show compareOfLessAndEq _ _ ≠ _
    unfold compareOfLessAndEq
    rw [if_neg (by omega)]
    split <;> simp
  revert this
  cases compare (sr s r) (sr t q) <;> simp

theorem part_word {n all : Int} (hn : n.natAbs ≤ 2 ^ 63) (ha : 0 < all) (ha' : all.natAbs ≤ 2 ^ 63) :
    ∃ r q R, fi n = D.word (decide (n < 0)) r ∧ Rounds D (n.natAbs : Rat) r ∧ r < D.infRung ∧ fi all = D.word false q ∧ q ≠ 0 ∧ q < D.infRung ∧ Rounds D (all.natAbs : Rat) q ∧ partB n all = D.word (decide (n < 0)) (min R D.infRung) ∧ Rounds D ((rv D r : Rat) / (rv D q : Rat)) R := by
  obtain ⟨r, hr, e1, h1⟩ := fi_spec hn
  obtain ⟨q, hq, e2, h2⟩ := fi_spec ha'
  have hs : decide (all < 0) = false := by simp; omega
  rw [hs] at e2
  have hq0 : q ≠ 0 := by
    intro h; subst h
    have := rounds_zero_inv h2 (by omega); omega
  obtain ⟨R, h3, h4⟩ := rounds_div D (by decide) (decide (n < 0)) false hr hq hq0
  refine ⟨r, q, R, e1, h1, hr, e2, hq0, hq, h2, ?_, h4⟩
  unfold partB
  rw [e1, e2, h3, Bool.xor_false]
  exact nnB_word _ (Nat.min_le_right ..)

theorem part_self {n : Int} (hn : n.natAbs ≤ 2 ^ 63) (h0 : n ≠ 0) : partB n n = 0x3FF0000000000000 := by
  obtain ⟨r, hr, e1, h1⟩ := fi_spec hn
  have hr0 : r ≠ 0 := by
    intro h; subst h
    have := rounds_zero_inv h1 (by omega); omega
  obtain ⟨R, h3, h4⟩ := rounds_div D (by decide) (decide (n < 0)) (decide (n < 0)) hr hr hr0
  have hpos : 0 < rv D r := by have := rv_lt D (r := 0) (q := r) (by omega); omega
  have h5 : (0 : Rat) < (rv D r : Rat) := by exact_mod_cast hpos
  have h6 : (rv D r : Rat) / (rv D r : Rat) = 1 := by
    rw [Rat.div_def, Rat.mul_inv_cancel]; grind
  rw [h6] at h4
  unfold partB
  rw [e1, h3, Bool.xor_self]
  have h7 : Rounds D 1 (1023 * 2 ^ 52) := by
    have := rounds_exact D (1023 * 2 ^ 52)
    have e : (rv D (1023 * 2 ^ 52) : Rat) * P D.leastPlace = 1 := by
      obtain ⟨k, hk⟩ : ∃ k : Nat, k = 1022 := ⟨_, rfl⟩
      have e1 : (1023 * 2 ^ 52 : Nat) = k * D.binade + D.binade := by rw [D_bin, hk]
      rw [e1, rv_at D (.inr (Nat.le_refl _)) (by rw [D_bin]; omega), D_bin, ← Nat.pow_add, ← P_nat, ← P_add, D_lp, show ((52 + k : Nat) : Int) + -1074 = 0 from by omega]
      rfl
    rwa [e] at this
  have := h4.same h7
  subst this
  rw [Nat.min_eq_left (by rw [D_inf]; omega), nnB_word _ (by rw [D_inf]; omega)]
  rfl

theorem div_mono {a b c : Rat} (h : a ≤ b) (hc : 0 < c) : a / c ≤ b / c := by
  rw [← mul_le_iff hc, Rat.div_mul_cancel (by grind), Rat.div_mul_cancel (by grind)]; exact h

theorem part_mono {n m all : Int} (hn : n.natAbs ≤ 2 ^ 63) (hm : m.natAbs ≤ 2 ^ 63) (ha : 0 < all) (ha' : all.natAbs ≤ 2 ^ 63) (h : n ≤ m) :
    lessB (partB m all) (partB n all) = false := by
  obtain ⟨r1, q, R1, e1, k1, l1, e2, hq0, hq, k2, p1, v1⟩ := part_word hn ha ha'
  obtain ⟨r2, q', R2, e1', k1', l1', e2', _, hq', k2', p2, v2⟩ := part_word hm ha ha'
  have := k2.same k2'
  subst this
  have hpos : 0 < rv D q := by have := rv_lt D (r := 0) (q := q) (by omega); omega
  have h5 : (0 : Rat) < (rv D q : Rat) := by exact_mod_cast hpos
  rw [p1, p2]
  refine less_word _ _ (Nat.min_le_right ..) (Nat.min_le_right ..) ?_
  have go : ∀ {x y : Nat} {s t S T : Nat}, x ≤ y → Rounds D (x : Rat) s → Rounds D (y : Rat) t → Rounds D ((rv D s : Rat) / (rv D q : Rat)) S → Rounds D ((rv D t : Rat) / (rv D q : Rat)) T → S ≤ T := by
    intro x y s t S T hxy a b c d
    have h1 : (x : Rat) ≤ (y : Rat) := by exact_mod_cast hxy
    have h2 := rv_le D (a.mono h1 b)
    have h3 : (rv D s : Rat) ≤ (rv D t : Rat) := by exact_mod_cast h2
    exact c.mono (div_mono h3 h5) d
  by_cases s1 : n < 0
  · by_cases s2 : m < 0
    · have := go (x := m.natAbs) (y := n.natAbs) (by omega) k1' k1 v2 v1
      simp only [s1, s2, decide_true, sr, if_true]; omega
    · simp only [s1, s2, decide_true, decide_false, sr, if_true, Bool.false_eq_true, if_false]; omega
  · have s2 : ¬ m < 0 := by omega
    have := go (x := n.natAbs) (y := m.natAbs) (by omega) k1 k1' v1 v2
    simp only [s1, s2, decide_false, sr, Bool.false_eq_true, if_false]; omega

/-- A part of small numbers: the quotient of the very numbers, rounded. -/
theorem part_small {n all : Int} (hn : n.natAbs < 2 ^ 53) (ha : 0 < all) (ha' : all.natAbs < 2 ^ 53) :
    ∃ R, partB n all = D.word (decide (n < 0)) (min R D.infRung) ∧ Rounds D ((n.natAbs : Rat) / (all.natAbs : Rat)) R := by
  obtain ⟨r, q, R, e1, k1, l1, e2, hq0, hq, k2, p1, v1⟩ := part_word (n := n) (all := all) (by omega) ha (by omega)
  refine ⟨R, p1, ?_⟩
  obtain ⟨r', _, er⟩ := exact_small (n := n.natAbs) (by omega) (.inl hn)
  obtain ⟨q', _, eq⟩ := exact_small (n := all.natAbs) (by omega) (.inl ha')
  have h1 := rounds_exact D r'; rw [er] at h1
  have h2 := rounds_exact D q'; rw [eq] at h2
  have := k1.same h1; subst this
  have := k2.same h2; subst this
  have hpos : 0 < rv D q := by have := rv_lt D (r := 0) (q := q) (by omega); omega
  have h5 : (0 : Rat) < (rv D q : Rat) := by exact_mod_cast hpos
  have hall : (0 : Rat) < (all.natAbs : Rat) := by
    have : 0 < all.natAbs := by omega
    exact_mod_cast this
  have e : (n.natAbs : Rat) / (all.natAbs : Rat) = (rv D r : Rat) / (rv D q : Rat) := by
    rw [← mul_eq_iff hall, Rat.div_mul_cancel (by grind), ← er, ← eq]
    rw [← Rat.mul_assoc, Rat.div_mul_cancel (by grind)]
  rw [e]; exact v1

theorem part_cross {a b c d : Int} (ha : a.natAbs < 2 ^ 53) (hc : c.natAbs < 2 ^ 53) (hb : 0 < b) (hb' : b.natAbs < 2 ^ 53) (hd : 0 < d) (hd' : d.natAbs < 2 ^ 53) (h : a * d ≤ c * b) :
    lessB (partB c d) (partB a b) = false := by
  obtain ⟨R1, p1, v1⟩ := part_small ha hb hb'
  obtain ⟨R2, p2, v2⟩ := part_small hc hd hd'
  rw [p1, p2]
  refine less_word _ _ (Nat.min_le_right ..) (Nat.min_le_right ..) ?_
  have hbp : (0 : Rat) < (b.natAbs : Rat) := by
    have : 0 < b.natAbs := by omega
    exact_mod_cast this
  have hdp : (0 : Rat) < (d.natAbs : Rat) := by
    have : 0 < d.natAbs := by omega
    exact_mod_cast this
  have key : ∀ x y z w : Nat, (0 : Rat) < (y : Rat) → (0 : Rat) < (w : Rat) → x * w ≤ z * y → (x : Rat) / (y : Rat) ≤ (z : Rat) / (w : Rat) := by
    intro x y z w hy hw h
    rw [← mul_le_iff hy, Rat.div_mul_cancel (by grind), ← mul_le_iff hw]
    have e : (z : Rat) / (w : Rat) * (y : Rat) * (w : Rat) = (z : Rat) / (w : Rat) * (w : Rat) * (y : Rat) := by grind
    rw [e, Rat.div_mul_cancel (by grind), ← Rat.natCast_mul, ← Rat.natCast_mul]
    exact_mod_cast h
  have eb : ((b.natAbs : Nat) : Int) = b := by omega
  have ed : ((d.natAbs : Nat) : Int) = d := by omega
  by_cases s1 : a < 0
  · by_cases s2 : c < 0
    · have hx : c.natAbs * b.natAbs ≤ a.natAbs * d.natAbs := by
        have e1 : ((c.natAbs * b.natAbs : Nat) : Int) = -(c * b) := by rw [Int.natCast_mul, eb, show ((c.natAbs : Nat) : Int) = -c from by omega, Int.neg_mul]
        have e2 : ((a.natAbs * d.natAbs : Nat) : Int) = -(a * d) := by rw [Int.natCast_mul, ed, show ((a.natAbs : Nat) : Int) = -a from by omega, Int.neg_mul]
        omega
      have := v2.mono (key _ _ _ _ hdp hbp hx) v1
      simp only [s1, s2, decide_true, sr, if_true]; omega
    · simp only [s1, s2, decide_true, decide_false, sr, if_true, Bool.false_eq_true, if_false]; omega
  · have s2 : ¬ c < 0 := by
      intro hc0
      have h1 : c * b < 0 := Int.mul_neg_of_neg_of_pos hc0 hb
      have h2 : 0 ≤ a * d := Int.mul_nonneg (by omega) (by omega)
      omega
    have hx : a.natAbs * d.natAbs ≤ c.natAbs * b.natAbs := by
      have e1 : ((c.natAbs * b.natAbs : Nat) : Int) = c * b := by rw [Int.natCast_mul, eb, show ((c.natAbs : Nat) : Int) = c from by omega]
      have e2 : ((a.natAbs * d.natAbs : Nat) : Int) = a * d := by rw [Int.natCast_mul, ed, show ((a.natAbs : Nat) : Int) = a from by omega]
      omega
    have := v1.mono (key _ _ _ _ hbp hdp hx) v2
    simp only [s1, s2, decide_false, sr, Bool.false_eq_true, if_false]; omega

theorem part_times {a b : Int} (ha : (a * b).natAbs < 2 ^ 53) (hb : 0 < b) (hb' : b.natAbs < 2 ^ 53) (ha' : a.natAbs < 2 ^ 53) : partB (a * b) b = partB a 1 := by
  obtain ⟨R1, p1, v1⟩ := part_small ha hb hb'
  obtain ⟨R2, p2, v2⟩ := part_small (n := a) (all := 1) ha' (by omega) (by decide)
  have hbp : (0 : Rat) < (b.natAbs : Rat) := by
    have : 0 < b.natAbs := by omega
    exact_mod_cast this
  have e : ((a * b).natAbs : Rat) / (b.natAbs : Rat) = (a.natAbs : Rat) / ((1 : Int).natAbs : Rat) := by
    rw [← mul_eq_iff hbp, Rat.div_mul_cancel (by grind), Int.natAbs_mul, Rat.natCast_mul]
    have : ((Int.natAbs 1 : Nat) : Rat) = 1 := rfl
    rw [this, Rat.div_def]
    have h1 : (1 : Rat)⁻¹ = 1 := by grind
    rw [h1, Rat.mul_one]
  rw [e] at v1
  have := v1.same v2
  subst this
  rw [p1, p2]
  congr 1
  rcases Int.lt_trichotomy a 0 with h | h | h
  · have : a * b < 0 := Int.mul_neg_of_neg_of_pos h hb
    simp [h, this]
  · subst h; simp
  · have : 0 < a * b := Int.mul_pos h hb
    have h1 : ¬ a * b < 0 := by omega
    have h2 : ¬ a < 0 := by omega
    simp [h1, h2]

theorem sumB_ref {x : Int} {l : List Int} (hx : x.natAbs ≤ 2 ^ 63) : sumB (x :: l) = l.foldl (fun o n => o.bind fun s => D.add s (fi n)) (some (fi x)) := by
  unfold sumB
  rw [List.foldl_cons]
  congr 1
  exact zero_add_fi hx

theorem sumB_small (B : Nat) : ∀ (l : List Int) (s : Int), (∀ x ∈ l, x.natAbs ≤ B) → s.natAbs + l.length * B < 2 ^ 53 →
    l.foldl (fun o n => o.bind fun s => D.add s (fi n)) (some (fi s)) = some (fi (s + l.sum)) ∧ (s + l.sum).natAbs ≤ s.natAbs + l.length * B
  | [], s, _, _ => by simp
  | x :: l, s, h, hb => by
    have hx := h x (by simp)
    have e : (l.length + 1) * B = l.length * B + B := Nat.succ_mul ..
    simp only [List.length_cons, e] at hb
    have ih := sumB_small B l (s + x) (fun y hy => h y (by simp [hy])) (by omega)
    simp only [List.foldl_cons, Option.bind_some, List.sum_cons, List.length_cons]
    rw [add_exact (by omega) (by omega) (by omega)]
    rw [← Int.add_assoc, e]
    exact ⟨ih.1, by have := ih.2; omega⟩

theorem fi_zero : fi 0 = 0 := by decide

theorem sum_bounds (lo hi : Int) : ∀ l : List Int, (∀ x ∈ l, lo ≤ x ∧ x ≤ hi) → lo * l.length ≤ l.sum ∧ l.sum ≤ hi * l.length
  | [], _ => by simp
  | x :: l, h => by
    have hx := h x (by simp)
    have ih := sum_bounds lo hi l (fun y hy => h y (by simp [hy]))
    have e : ∀ c : Int, c * ((l.length + 1 : Nat) : Int) = c * l.length + c := by intro c; rw [Int.natCast_add, Int.mul_add]; simp
    simp only [List.sum_cons, List.length_cons, e]
    omega

/-- The mean of few small numbers lies between the least and the greatest one. -/
theorem mean_between {l : List Int} {lo hi : Int} (h0 : l ≠ []) (hl : l.length ≤ 1000) (hx : ∀ x ∈ l, lo ≤ x ∧ x ≤ hi) (hlo : -536870912 ≤ lo) (hhi : hi ≤ 536870911) :
    lessB (meanB l) (partB lo 1) = false ∧ lessB (partB hi 1) (meanB l) = false ∧ (lo = hi → meanB l = partB lo 1) := by
  have hlen : 0 < l.length := by cases l <;> simp at *
  have hs := sumB_small 536870912 l 0 (fun x h => by have := hx x h; omega) (by
    have : l.length * 536870912 ≤ 1000 * 536870912 := Nat.mul_le_mul_right _ hl
    simp; omega)
  rw [fi_zero, Int.zero_add] at hs
  have e : meanB l = partB l.sum l.length := by
    unfold meanB partB
    rw [show sumB l = some (fi l.sum) from hs.1]
    rfl
  have hb : l.sum.natAbs < 2 ^ 53 := by
    have h1 := hs.2
    have : l.length * 536870912 ≤ 1000 * 536870912 := Nat.mul_le_mul_right _ hl
    simp at h1; omega
  have hne : lo ≤ hi := by
    cases l with
    | nil => simp at hlen
    | cons x t => have := hx x (by simp); omega
  have sb := sum_bounds lo hi l hx
  rw [e]
  refine ⟨part_cross (by omega) hb (by omega) (by decide) (by omega) (by omega) (by omega), part_cross hb (by omega) (by omega) (by omega) (by omega) (by decide) (by omega), ?_⟩
  intro h
  subst h
  have : l.sum = lo * l.length := by omega
  rw [this] at hb ⊢
  exact part_times hb (by omega) (by omega) (by omega)
end JFl
