/- SpaceOnce: the plain law. -/
import Derived.Test.YtbkbfkaklhojgaaWm
import Derived.Test.YtbkbfkaklhojgaaWl
namespace Go.Proofs.Ytbkbfkaklhojgaa
open Go.RowKit Go.Shelf
/-- A space and the rows that say what it is. -/
structure OnS (w W : World) (b N last : Nat) (f : Nat → Nat) (g7 g8 g9 : Nat) (v7 v8 v9 : Value) : Prop where
  si : SI W b N last f
  ll : last < N
  f0 : f 0 = 1
  f1 : f 1 = 1
  r7 : BR W v7 g7 (rowL N (tB f))
  r8 : BR W v8 g8 (rowL N (wB f))
  r9 : BR W v9 g9 (rowL N (kB f))
  be : Below w.heap.size w W
  lb : w.heap.size ≤ b
  l7 : w.heap.size ≤ g7
  l8 : w.heap.size ≤ g8
  l9 : w.heap.size ≤ g9
  n7 : g7 ≠ b
  n8 : g8 ≠ b
  n9 : g9 ≠ b
  d1 : g7 ≠ g8
  d2 : g7 ≠ g9
  d3 : g8 ≠ g9
section
variable {w W W' : World} {b N last last' : Nat} {f f' : Nat → Nat} {g7 g8 g9 : Nat} {v7 v8 v9 : Value}
theorem belowSet {B : Nat} {w W : World} (h : Below B w W) (g i : Nat) (x : Value) (hB : B ≤ W.heap.size) (hg : B ≤ g) : Below B w (W.setCell ⟨g, i, none⟩ x) :=
  Below.fr h ((Fr.refl (· = g) W).setCell (b := g) rfl x) hB (fun _ e => Nat.le_trans hg (Nat.le_of_eq e.symm))
theorem frSet (W : World) (g i : Nat) (x : Value) : Fr (· = g) W (W.setCell ⟨g, i, none⟩ x) := (Fr.refl (· = g) W).setCell (b := g) rfl x
theorem OnS.next (h : OnS w W b N last f g7 g8 g9 v7 v8 v9) (k : Below W.heap.size W W') : OnS w W' b N last f g7 g8 g9 v7 v8 v9 :=
  { h with si := h.si.next k, r7 := h.r7.next k, r8 := h.r8.next k, r9 := h.r9.next k, be := bt h.be k }
theorem OnS.take (h : OnS w W b N last f g7 g8 g9 v7 v8 v9) (x : Nat) (hx : x < N) (hx2 : 2 ≤ x) (hf : f x = 0) (hs : SI W' b N x (upd f x 2)) (hfr : Fr (· = b) W W') :
    OnS w (W'.setCell ⟨g7, x, none⟩ (.bool true)) b N x (upd f x 2) g7 g8 g9 v7 v8 v9 := by
  have hbe : Below w.heap.size w W' := Below.fr h.be hfr h.be.size (fun _ e => Nat.le_trans h.lb (Nat.le_of_eq e.symm))
  refine { h with si := hs.fr (frSet W' g7 x _) (fun e => h.n7 e.symm), ll := hx, f0 := ?_, f1 := ?_, r7 := ?_, r8 := ?_, r9 := ?_, be := belowSet hbe g7 x _ hbe.size h.l7 }
  · unfold upd; rw [if_neg (by omega)]; exact h.f0
  · unfold upd; rw [if_neg (by omega)]; exact h.f1
  · have := (h.r7.fr hfr h.n7).set x (.bool true) (by rw [rowL_len]; exact hx)
    rw [rowL_set] at this
    rw [rowL_congr (p := tB (upd f x 2)) (q := fun j => if j = x then true else tB f j) (fun k _ => by unfold tB upd; by_cases e : k = x <;> simp [e])]
    exact this
  · have := (h.r8.fr hfr h.n8).fr (frSet W' g7 x (.bool true)) (fun e => h.d1 e.symm)
    rw [rowL_congr (p := wB (upd f x 2)) (q := wB f) (fun k _ => by unfold wB upd; by_cases e : k = x <;> simp [e, hf])]
    exact this
  · have := (h.r9.fr hfr h.n9).fr (frSet W' g7 x (.bool true)) (fun e => h.d2 e.symm)
    rw [rowL_congr (p := kB (upd f x 2)) (q := kB f) (fun k _ => by unfold kB upd; by_cases e : k = x <;> simp [e, hf])]
    exact this
theorem OnS.give (h : OnS w W b N last f g7 g8 g9 v7 v8 v9) (x : Nat) (hx : x < N) (hx2 : 2 ≤ x) (hf : f x = 2 ∨ f x = 1) (hs : SI W' b N last (giveF N f x)) (hfr : Fr (· = b) W W') :
    OnS w ((W'.setCell ⟨g7, x, none⟩ (.bool false)).setCell ⟨g8, x, none⟩ (.bool (kB f x))) b N last (giveF N f x) g7 g8 g9 v7 v8 v9 := by
  have hbe : Below w.heap.size w W' := Below.fr h.be hfr h.be.size (fun _ e => Nat.le_trans h.lb (Nat.le_of_eq e.symm))
  have hbe1 := belowSet hbe g7 x (.bool false) hbe.size h.l7
  have e1 : giveF N f (x : Nat) = upd f x (if f x = 2 then 0 else 3) := by
    unfold giveF
    rw [if_neg (by omega), Int.toNat_natCast]
    rcases hf with e | e
    · rw [if_pos e, if_pos e]
    · rw [if_neg (by omega), if_pos e, if_neg (by omega)]
  rw [e1] at hs ⊢
  have c7 : ∀ k, tB (upd f x (if f x = 2 then 0 else 3)) k = if k = x then false else tB f k := fun k => by
    unfold tB upd
    by_cases e : k = x
    · subst e; rcases hf with h2 | h2 <;> simp [h2]
    · simp [e]
  have c8 : ∀ k, wB (upd f x (if f x = 2 then 0 else 3)) k = if k = x then kB f x else wB f k := fun k => by
    unfold wB kB upd
    by_cases e : k = x
    · subst e; rcases hf with h2 | h2 <;> simp [h2]
    · simp [e]
  have c9 : ∀ k, kB (upd f x (if f x = 2 then 0 else 3)) k = kB f k := fun k => by
    unfold kB upd
    by_cases e : k = x
    · subst e; rcases hf with h2 | h2 <;> simp [h2]
    · simp [e]
  refine { h with si := (hs.fr (frSet W' g7 x _) (fun e => h.n7 e.symm)).fr (frSet _ g8 x _) (fun e => h.n8 e.symm), f0 := ?_, f1 := ?_, r7 := ?_, r8 := ?_, r9 := ?_, be := belowSet hbe1 g8 x _ hbe1.size h.l8 }
  · unfold upd; rw [if_neg (by omega)]; exact h.f0
  · unfold upd; rw [if_neg (by omega)]; exact h.f1
  · have := ((h.r7.fr hfr h.n7).set x (.bool false) (by rw [rowL_len]; exact hx)).fr (frSet _ g8 x (.bool (kB f x))) h.d1
    rw [rowL_set] at this
    rw [rowL_congr (fun k _ => c7 k)]
    exact this
  · have := ((h.r8.fr hfr h.n8).fr (frSet W' g7 x (.bool false)) (fun e => h.d1 e.symm)).set x (.bool (kB f x)) (by rw [rowL_len]; exact hx)
    rw [rowL_set] at this
    rw [rowL_congr (fun k _ => c8 k)]
    exact this
  · have := ((h.r9.fr hfr h.n9).fr (frSet W' g7 x (.bool false)) (fun e => h.d2 e.symm)).fr (frSet _ g8 x (.bool (kB f x))) (fun e => h.d3 e.symm)
    rw [rowL_congr (fun k _ => c9 k)]
    exact this
theorem OnS.mark (h : OnS w W b N last f g7 g8 g9 v7 v8 v9) (x : Nat) (hx : x < N) (hx2 : 2 ≤ x) (hf : f x = 0) (hs : SI W' b N last (markF N f x)) (hfr : Fr (· = b) W W') :
    OnS w ((W'.setCell ⟨g7, x, none⟩ (.bool true)).setCell ⟨g9, x, none⟩ (.bool true)) b N last (markF N f x) g7 g8 g9 v7 v8 v9 := by
  have hbe : Below w.heap.size w W' := Below.fr h.be hfr h.be.size (fun _ e => Nat.le_trans h.lb (Nat.le_of_eq e.symm))
  have hbe1 := belowSet hbe g7 x (.bool true) hbe.size h.l7
  have e1 : markF N f (x : Nat) = upd f x 1 := by
    unfold markF
    rw [if_neg (by omega), Int.toNat_natCast, if_pos hf]
  rw [e1] at hs ⊢
  have c7 : ∀ k, tB (upd f x 1) k = if k = x then true else tB f k := fun k => by
    unfold tB upd; by_cases e : k = x <;> simp [e]
  have c8 : ∀ k, wB (upd f x 1) k = wB f k := fun k => by
    unfold wB upd; by_cases e : k = x <;> simp [e, hf]
  have c9 : ∀ k, kB (upd f x 1) k = if k = x then true else kB f k := fun k => by
    unfold kB upd; by_cases e : k = x <;> simp [e]
  refine { h with si := (hs.fr (frSet W' g7 x _) (fun e => h.n7 e.symm)).fr (frSet _ g9 x _) (fun e => h.n9 e.symm), f0 := ?_, f1 := ?_, r7 := ?_, r8 := ?_, r9 := ?_, be := belowSet hbe1 g9 x _ hbe1.size h.l9 }
  · unfold upd; rw [if_neg (by omega)]; exact h.f0
  · unfold upd; rw [if_neg (by omega)]; exact h.f1
  · have := ((h.r7.fr hfr h.n7).set x (.bool true) (by rw [rowL_len]; exact hx)).fr (frSet _ g9 x (.bool true)) h.d2
    rw [rowL_set] at this
    rw [rowL_congr (fun k _ => c7 k)]
    exact this
  · have := ((h.r8.fr hfr h.n8).fr (frSet W' g7 x (.bool true)) (fun e => h.d1 e.symm)).fr (frSet _ g9 x (.bool true)) h.d3
    rw [rowL_congr (fun k _ => c8 k)]
    exact this
  · have := ((h.r9.fr hfr h.n9).fr (frSet W' g7 x (.bool true)) (fun e => h.d2 e.symm)).set x (.bool true) (by rw [rowL_len]; exact hx)
    rw [rowL_set] at this
    rw [rowL_congr (fun k _ => c9 k)]
    exact this
/-- What Settle makes of a state. -/
def stF (N : Nat) (f : Nat → Nat) : Nat → Nat := turnF N (turnF N f 3 0) 2 1
def bkF (N : Nat) (f : Nat → Nat) : Nat → Nat := turnF N (turnF N f 3 1) 2 0
theorem stF_at (f : Nat → Nat) (h0 : f 0 = 1) (h1 : f 1 = 1) (k : Nat) (hk : k < N) : stF N f k = if f k = 3 then 0 else if f k = 2 then 1 else f k := by
  by_cases h2 : 2 ≤ k
  · unfold stF turnF
    by_cases e : f k = 3
    · simp [h2, hk, e]
    · by_cases e2 : f k = 2
      · simp [h2, hk, e2]
      · simp [h2, hk, e, e2]
  · have : k = 0 ∨ k = 1 := by omega
    unfold stF turnF
    rcases this with rfl | rfl
    · simp [h0]
    · simp [h1]
theorem bkF_at (f : Nat → Nat) (h0 : f 0 = 1) (h1 : f 1 = 1) (k : Nat) (hk : k < N) : bkF N f k = if f k = 3 then 1 else if f k = 2 then 0 else f k := by
  by_cases h2 : 2 ≤ k
  · unfold bkF turnF
    by_cases e : f k = 3
    · simp [h2, hk, e]
    · by_cases e2 : f k = 2
      · simp [h2, hk, e2]
      · simp [h2, hk, e, e2]
  · have : k = 0 ∨ k = 1 := by omega
    unfold bkF turnF
    rcases this with rfl | rfl
    · simp [h0]
    · simp [h1]
/-- Settled: a new row for what waits, and one for what is kept. -/
theorem OnS.settle {W1 W2 W3 : World} {n8' n9' : Nat} {v8' v9' : Value} (h : OnS w W b N last f g7 g8 g9 v7 v8 v9) (h2N : 2 ≤ N) (hs : SI W1 b N last (stF N f)) (hfr : Fr (· = b) W W1)
    (h8 : BR W2 v8' n8' (rowL N (fun _ => false))) (hb2 : Below W1.heap.size W1 W2) (k8 : W1.heap.size ≤ n8') (h9 : BR W3 v9' n9' (rowL N (tB f))) (hb3 : Below W2.heap.size W2 W3) (k9 : W2.heap.size ≤ n9') : OnS w W3 b N last (stF N f) g7 n8' n9' v7 v8' v9' := by
  have hbe : Below w.heap.size w W1 := Below.fr h.be hfr h.be.size (fun _ e => Nat.le_trans h.lb (Nat.le_of_eq e.symm))
  have z1 := hbe.size
  have z2 := hb2.size
  have z3 := h.r7.lt
  have z4 := hfr.size
  have z5 := hs.lt
  have z6 := h8.lt
  have at_ := stF_at (N := N) f h.f0 h.f1
  refine ⟨(hs.next hb2).next hb3, h.ll, ?_, ?_, ?_, ?_, ?_, bt (bt hbe hb2) hb3, h.lb, h.l7, by omega, by omega, h.n7, by omega, by omega, by omega, by omega, by omega⟩
  · rw [at_ 0 (by omega)]; simp [h.f0]
  · rw [at_ 1 (by omega)]; simp [h.f1]
  · rw [rowL_congr (p := tB (stF N f)) (q := tB f) (fun k hk => by unfold tB; rw [at_ k hk]; by_cases e : f k = 3 <;> by_cases e2 : f k = 2 <;> simp [e, e2])]
    exact ((h.r7.fr hfr h.n7).next hb2).next hb3
  · rw [rowL_congr (p := wB (stF N f)) (q := fun _ => false) (fun k hk => by unfold wB; rw [at_ k hk]; by_cases e : f k = 3 <;> by_cases e2 : f k = 2 <;> simp [e, e2])]
    exact h8.next hb3
  · rw [rowL_congr (p := kB (stF N f)) (q := tB f) (fun k hk => by unfold kB tB; rw [at_ k hk]; by_cases e : f k = 3 <;> by_cases e2 : f k = 2 <;> simp [e, e2])]
    exact h9
theorem OnS.back {W1 W2 W3 : World} {n8' n7' : Nat} {v8' v7' : Value} (h : OnS w W b N last f g7 g8 g9 v7 v8 v9) (h2N : 2 ≤ N) (hs : SI W1 b N last (bkF N f)) (hfr : Fr (· = b) W W1)
    (h8 : BR W2 v8' n8' (rowL N (fun _ => false))) (hb2 : Below W1.heap.size W1 W2) (k8 : W1.heap.size ≤ n8') (h7 : BR W3 v7' n7' (rowL N (kB f))) (hb3 : Below W2.heap.size W2 W3) (k7 : W2.heap.size ≤ n7') : OnS w W3 b N last (bkF N f) n7' n8' g9 v7' v8' v9 := by
  have hbe : Below w.heap.size w W1 := Below.fr h.be hfr h.be.size (fun _ e => Nat.le_trans h.lb (Nat.le_of_eq e.symm))
  have z1 := hbe.size
  have z2 := hb2.size
  have z3 := h.r9.lt
  have z4 := hfr.size
  have z5 := hs.lt
  have z6 := h8.lt
  have at_ := bkF_at (N := N) f h.f0 h.f1
  refine ⟨(hs.next hb2).next hb3, h.ll, ?_, ?_, ?_, ?_, ?_, bt (bt hbe hb2) hb3, h.lb, by omega, by omega, h.l9, by omega, by omega, h.n9, by omega, by omega, by omega⟩
  · rw [at_ 0 (by omega)]; simp [h.f0]
  · rw [at_ 1 (by omega)]; simp [h.f1]
  · rw [rowL_congr (p := tB (bkF N f)) (q := kB f) (fun k hk => by unfold tB kB; rw [at_ k hk]; by_cases e : f k = 3 <;> by_cases e2 : f k = 2 <;> simp [e, e2])]
    exact h7
  · rw [rowL_congr (p := wB (bkF N f)) (q := fun _ => false) (fun k hk => by unfold wB; rw [at_ k hk]; by_cases e : f k = 3 <;> by_cases e2 : f k = 2 <;> simp [e, e2])]
    exact h8.next hb3
  · rw [rowL_congr (p := kB (bkF N f)) (q := kB f) (fun k hk => by unfold kB; rw [at_ k hk]; by_cases e : f k = 3 <;> by_cases e2 : f k = 2 <;> simp [e, e2])]
    exact ((h.r9.fr hfr h.n9).next hb2).next hb3
end
end Go.Proofs.Ytbkbfkaklhojgaa
