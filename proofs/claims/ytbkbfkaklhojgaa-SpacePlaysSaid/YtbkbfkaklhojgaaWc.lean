/- All blocks of a state become of another one. -/
import Derived.Test.YtbkbfkaklhojgaaWb
namespace Go.Proofs.Ytbkbfkaklhojgaa
open Go.RowKit Go.Shelf
attribute [local go_sem] Oper.semAt_some
theorem Fr.put {M : Nat → Prop} {W W' : World} (h : Fr M W W') (k : Nat) (o : Obj) (hk : M k) : Fr M W (W'.putObj k o) :=
  ⟨h.os, h.tape, h.output, by simpa using h.size, fun j hj hn => (World.putObj_heap_other (fun e => hn (by first | exact e ▸ hk | exact e.symm ▸ hk))).trans (h.block j hj hn)⟩
theorem Fr.keep {M : Nat → Prop} {B : Nat} {W W' : World} (h : Fr M W W') (h0 : ¬ M B) (h1 : ¬ M (B + 1)) : Keep2 B W W' := fun k o hk1 hk2 hko => by
  have hlt := (Array.getElem?_eq_some_iff.1 hko).1
  have : k = B ∨ k = B + 1 := by omega
  rcases this with rfl | rfl
  · exact (h.block _ hlt h0).trans hko
  · exact (h.block _ hlt h1).trans hko
/-- How many of the first N are of a state. -/
def cnt : Nat → (Nat → Nat) → Nat → Int
  | 0, _, _ => 0
  | n + 1, f, j => cnt n f j + if f n = j then 1 else 0
theorem cnt_upd_ge (f : Nat → Nat) (n t j : Nat) : ∀ N, N ≤ n → cnt N (upd f n t) j = cnt N f j
  | 0, _ => rfl
  | N + 1, h => by
    have hne : N ≠ n := by omega
    simp only [cnt, cnt_upd_ge f n t j N (by omega), upd, if_neg hne]
theorem cnt_upd (f : Nat → Nat) (n t j : Nat) : ∀ N, n < N → cnt N (upd f n t) j = cnt N f j - (if f n = j then 1 else 0) + (if t = j then 1 else 0)
  | 0, h => by omega
  | N + 1, h => by
    by_cases e : n = N
    · subst e
      simp only [cnt, cnt_upd_ge f n t j n (Nat.le_refl _), upd, if_true]
      omega
    · have hne : N ≠ n := fun h => e h.symm
      simp only [cnt, cnt_upd f n t j N (by omega), upd, if_neg hne]
      omega
theorem cnt_bd (f : Nat → Nat) (j : Nat) : ∀ N : Nat, 0 ≤ cnt N f j ∧ cnt N f j ≤ N
  | 0 => by simp [cnt]
  | N + 1 => by
    have := cnt_bd f j N
    simp only [cnt]
    split <;> omega
theorem cnt_zero (f : Nat → Nat) (j : Nat) : ∀ N, cnt N f j = 0 → ∀ i, i < N → f i ≠ j
  | 0, _, i, hi => by omega
  | N + 1, h, i, hi => by
    have hb := cnt_bd f j N
    simp only [cnt] at h
    by_cases e : f N = j
    · rw [if_pos e] at h; omega
    · rw [if_neg e] at h
      by_cases e2 : i = N
      · subst e2; exact e
      · exact cnt_zero f j N (by omega) i (by omega)
/-- The counts are those of the states. -/
structure Cn (N : Nat) (f : Nat → Nat) (c : Nat → Int) : Prop where
  ct : ∀ j, j < 4 → c j = cnt N f j
  st : ∀ i, f i < 4
theorem Cn.put {N : Nat} {f : Nat → Nat} {c : Nat → Int} (h : Cn N f c) {n t : Nat} (hn : n < N) (ht : t < 4) : Cn N (upd f n t) (ctP c (f n) t) := by
  refine ⟨fun j hj => ?_, fun i => ?_⟩
  · rw [cnt_upd f n t j N hn]
    have h1 := h.ct j hj
    have h2 := h.ct t ht
    have h3 := h.ct (f n) (h.st n)
    unfold ctP upd
    by_cases e1 : j = t
    · subst e1
      by_cases e2 : j = f n
      · subst e2; simp; omega
      · have e3 : f n ≠ j := fun h => e2 h.symm
        simp [e2, e3]; omega
    · by_cases e2 : j = f n
      · subst e2
        have e3 : t ≠ f n := fun h => e1 h.symm
        simp [e1, e3]; omega
      · have e3 : f n ≠ j := fun h => e2 h.symm
        have e4 : t ≠ j := fun h => e1 h.symm
        simp [e1, e2, e3, e4]; omega
  · unfold upd; split
    · exact ht
    · exact h.st i
theorem Cn.bd {N : Nat} {f : Nat → Nat} {c : Nat → Int} (h : Cn N f c) (hN : N ≤ 8192) : ∀ j, j < 4 → -100000 ≤ c j ∧ c j ≤ 100000 := fun j hj => by
  have := cnt_bd f j N
  rw [h.ct j hj]; omega
/-- A space in memory, its counts right. -/
def SI (w : World) (b : Nat) (N : Nat) (last : Int) (f : Nat → Nat) : Prop := ∃ c, SpAt w b N last f c ∧ Cn N f c
theorem SI.next {w w' : World} {b N : Nat} {last : Int} {f : Nat → Nat} (h : SI w b N last f) (hb : Below w.heap.size w w') : SI w' b N last f := by
  obtain ⟨c, h1, h2⟩ := h
  exact ⟨c, h1.next hb, h2⟩
theorem SI.fr {M : Nat → Prop} {w w' : World} {b N : Nat} {last : Int} {f : Nat → Nat} (h : SI w b N last f) (hf : Fr M w w') (hm : ¬ M b) : SI w' b N last f := by
  obtain ⟨c, h1, h2⟩ := h
  exact ⟨c, h1.fr hf hm, h2⟩
theorem SpAt.lt {w : World} {b : Nat} {N last : Int} {f : Nat → Nat} {c : Nat → Int} (h : SpAt w b N last f c) : b < w.heap.size := by
  obtain ⟨L, h1, _⟩ := h
  exact h1.lt
theorem SI.lt {w : World} {b N : Nat} {last : Int} {f : Nat → Nat} (h : SI w b N last f) : b < w.heap.size := by
  obtain ⟨c, h1, _⟩ := h
  exact h1.lt
theorem of_any (w : World) (b want : Nat) (above : Int) : Calls Try.prog 23 #[.pointer (some ⟨b, 0, none⟩), .int .u8 want, .int .i64 above] w fun e w' =>
    e = .returned (.func (.func 32) #[] #[.pointer (some ⟨w.heap.size, 0, none⟩), .pointer (some ⟨w.heap.size + 1, 0, none⟩), .pointer (some ⟨w.heap.size + 1 + 1, 0, none⟩)]) ∧ w' = ((w.alloc (.cells #[.pointer (some ⟨b, 0, none⟩)] 25)).alloc (.cells #[.int .u8 want] 48)).alloc (.cells #[.int .i64 above] 3) := by
  go_enter Try.func23, Try.ntmps23
  go_wp2
  go_ret
  exact ⟨rfl, rfl⟩
/-- All of a state below k become of another one. -/
def turnF (k : Nat) (f : Nat → Nat) (from_ to : Nat) : Nat → Nat := fun i => if 2 ≤ i ∧ i < k ∧ f i = from_ then to else f i
theorem turnF_two (f : Nat → Nat) (a t : Nat) : turnF 2 f a t = f := by
  funext i; unfold turnF; rw [if_neg (by omega)]
theorem turnF_next (f : Nat → Nat) (a t k x : Nat) (hk : 2 ≤ k) (hx : k ≤ x) (hf : turnF k f a t x = a) (hno : ∀ i, k ≤ i → i < x → turnF k f a t i ≠ a) : upd (turnF k f a t) x t = turnF (x + 1) f a t := by
  have hge : ∀ i, k ≤ i → turnF k f a t i = f i := fun i hi => by unfold turnF; rw [if_neg (by omega)]
  funext i
  unfold upd
  by_cases e : i = x
  · subst e
    rw [if_pos rfl]
    rw [hge i hx] at hf
    unfold turnF; rw [if_pos ⟨by omega, by omega, hf⟩]
  · rw [if_neg e]
    by_cases h1 : i < k
    · unfold turnF
      by_cases h2 : 2 ≤ i ∧ f i = a
      · rw [if_pos ⟨h2.1, h1, h2.2⟩, if_pos ⟨h2.1, by omega, h2.2⟩]
      · rw [if_neg (fun h => h2 ⟨h.1, h.2.2⟩), if_neg (fun h => h2 ⟨h.1, h.2.2⟩)]
    · rw [hge i (by omega)]
      unfold turnF
      by_cases h2 : i < x
      · have := hno i (by omega) h2
        rw [hge i (by omega)] at this
        rw [if_neg (fun h => this h.2.2)]
      · rw [if_neg (by omega)]
theorem turnF_end (f : Nat → Nat) (a t k N : Nat) (hkN : k ≤ N) (hno : ∀ i, k ≤ i → i < N → turnF k f a t i ≠ a) : turnF k f a t = turnF N f a t := by
  funext i
  by_cases h1 : k ≤ i ∧ i < N
  · have := hno i h1.1 h1.2
    unfold turnF at this ⊢
    rw [if_neg (by omega)] at this ⊢
    rw [if_neg (fun h => this h.2.2)]
  · unfold turnF
    by_cases h2 : 2 ≤ i ∧ i < k ∧ f i = a
    · rw [if_pos h2, if_pos ⟨h2.1, by omega, h2.2.2⟩]
    · rw [if_neg h2, if_neg (fun h => h2 ⟨h.1, by omega, h.2.2⟩)]
end Go.Proofs.Ytbkbfkaklhojgaa
