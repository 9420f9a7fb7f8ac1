/- A buffer by the program and one by the document, side by side; a step. -/
import Derived.Test.YtkcebbidmlnmmaaDoorXl
import Derived.Test.YtkcebbidmlnmmaaDoorXj
import Derived.Deep.RegionHeld3
namespace Go.Proofs.YtkcebbidmlnmmaaDoor
open Go.RowKit
/-- Both have the writes L; all their blocks are in S. -/
structure Pr (W : World) (p q : Nat) (L : List Wr) (S : Nat → Prop) : Prop where
  ex : ∃ S1 S2, Bf W p L S1 ∧ Xf W q L S2 ∧ (∀ i, S1 i → S2 i → False) ∧ (∀ i, S1 i → S i) ∧ ∀ i, S2 i → S i
  up : ∀ i, S i → i < W.heap.size
def PGo (w : World) (p q : Nat) (S : Nat → Prop) (L' : List Wr) (w' : World) : Prop := ∃ S', Pr w' p q L' S' ∧ Fr S w w' ∧ ∀ i, S' i → S i ∨ w.heap.size ≤ i
/-- Between the two calls. -/
def Md (w : World) (p q : Nat) (L L' : List Wr) (S : Nat → Prop) (w1 : World) : Prop :=
  ∃ S1 S2, Bf w1 p L' S1 ∧ Xf w1 q L S2 ∧ (∀ i, S1 i → S2 i → False) ∧ (∀ i, S1 i → S i ∨ w.heap.size ≤ i) ∧ (∀ i, S2 i → S i) ∧ Fr S w w1 ∧ ∀ i, S i → i < w.heap.size
section
variable {W W' w w1 w2 : World} {p q : Nat} {L L' : List Wr} {S M : Nat → Prop}
theorem Pr.ok (h : Pr W p q L S) : Ok L := by obtain ⟨⟨S1, S2, h1, _⟩, _⟩ := h; exact h1.ok
theorem Pr.fr (h : Pr W p q L S) (hf : Fr M W W') (hm : ∀ i, M i → S i → False) : Pr W' p q L S := by
  obtain ⟨⟨S1, S2, h1, h2, h3, h4, h5⟩, h6⟩ := h
  exact ⟨⟨S1, S2, h1.fr hf (fun i x y => hm i x (h4 i y)), h2.fr hf (fun i x y => hm i x (h5 i y)), h3, h4, h5⟩, fun i hi => Nat.lt_of_lt_of_le (h6 i hi) hf.size⟩
theorem Pr.next (h : Pr W p q L S) (hb : Below W.heap.size W W') : Pr W' p q L S := h.fr (M := fun _ => False) (Fr.of_below hb) (fun _ x _ => x.elim)
theorem Pr.first (h : Pr w p q L S) (S1 S2 : Nat → Prop) (h2 : Xf w q L S2) (h3 : ∀ i, S1 i → S2 i → False) (h4 : ∀ i, S1 i → S i) (h5 : ∀ i, S2 i → S i) (hg : BGo w p S1 L' w1) : Md w p q L L' S w1 := by
  obtain ⟨S1', g1, g2, g3⟩ := hg
  refine ⟨S1', S2, g1, h2.fr g2 h3, fun i x y => ?_, fun i x => (g3 i x).imp (h4 i) id, h5, g2.mono (fun i _ x => h4 i x), h.up⟩
  rcases g3 i x with x | x
  · exact h3 i x y
  · have := h2.up i y; omega
theorem md_second {S1 S2 : Nat → Prop} (h1 : Bf w1 p L' S1) (h3 : ∀ i, S1 i → S2 i → False) (h4 : ∀ i, S1 i → S i ∨ w.heap.size ≤ i) (h5 : ∀ i, S2 i → S i) (hf : Fr S w w1) (hg : XGo w1 q S2 L' w2) : PGo w p q S L' w2 := by
  obtain ⟨S2', g1, g2, g3⟩ := hg
  refine ⟨fun i => S1 i ∨ S2' i, ⟨⟨S1, S2', h1.fr g2 (fun i x y => h3 i y x), g1, fun i x y => ?_, fun i x => .inl x, fun i x => .inr x⟩, fun i x => ?_⟩, hf.trans (g2.mono (fun i _ x => h5 i x)), fun i x => ?_⟩
  · rcases g3 i y with y | y
    · exact h3 i x y
    · have := h1.up i x; omega
  · rcases x with x | x
    · exact Nat.lt_of_lt_of_le (h1.up i x) g2.size
    · exact g1.up i x
  · rcases x with x | x
    · exact h4 i x
    · rcases g3 i x with x | x
      · exact .inl (h5 i x)
      · exact .inr (Nat.le_trans hf.size x)
end
theorem write_pr (w : World) (p q : Nat) (L : List Wr) (S : Nat → Prop) (h : Pr w p q L S) (k a : Int) (t : ByteArray) :
    Calls Tryd.prog 14 #[.pointer (some ⟨p, 0, none⟩), .int .i64 k, .int .i64 a, .string t] w fun e w' => e = .returned (.int .i64 (writeE L k a t)) ∧ Md w p q L (writeL L k a t) S w' := by
  obtain ⟨S1, S2, h1, h2, h3, h4, h5⟩ := h.ex
  refine (write_f w p L S1 h1 k a t).mono ?_
  rintro e w' ⟨rfl, hg⟩
  exact ⟨rfl, h.first S1 S2 h2 h3 h4 h5 hg⟩
theorem rwrite_pr (w w1 : World) (p q : Nat) (L : List Wr) (S : Nat → Prop) (k a : Int) (t : ByteArray) (h : Md w p q L (writeL L k a t) S w1) (hok : Ok L) (ht : t.size ≤ 100000) :
    Calls Tryd.prog 31 #[.pointer (some ⟨q, 0, none⟩), .int .i64 k, .int .i64 a, .string t] w1 fun e w' => e = .returned (.int .i64 (writeE L k a t)) ∧ PGo w p q S (writeL L k a t) w' := by
  obtain ⟨S1, S2, h1, h2, h3, h4, h5, h6, _⟩ := h
  refine (rwrite_any w1 q L S2 h2 hok k a t ht).mono ?_
  rintro e w' ⟨rfl, hg⟩
  exact ⟨rfl, md_second h1 h3 h4 h5 h6 hg⟩
theorem cut_pr (w : World) (p q : Nat) (L : List Wr) (S : Nat → Prop) (h : Pr w p q L S) (k n : Int) (hn : n ≤ 9223372036854775807) :
    Calls Tryd.prog 21 #[.pointer (some ⟨p, 0, none⟩), .int .i64 k, .int .i64 n] w fun e w' => e = .returned (.int .i64 (if n < 0 then 1 else 0)) ∧ Md w p q L (cutA L k n) S w' := by
  obtain ⟨S1, S2, h1, h2, h3, h4, h5⟩ := h.ex
  refine (cut_f w p L S1 h1 k n hn).mono ?_
  rintro e w' ⟨rfl, hg⟩
  exact ⟨rfl, h.first S1 S2 h2 h3 h4 h5 hg⟩
theorem rcut_pr (w w1 : World) (p q : Nat) (L : List Wr) (S : Nat → Prop) (k n : Int) (h : Md w p q L (cutA L k n) S w1) (hok : Ok L) (hn : n ≤ 9223372036854775807) :
    Calls Tryd.prog 32 #[.pointer (some ⟨q, 0, none⟩), .int .i64 k, .int .i64 n] w1 fun e w' => e = .returned (.int .i64 (if n < 0 then 1 else 0)) ∧ PGo w p q S (cutA L k n) w' := by
  obtain ⟨S1, S2, h1, h2, h3, h4, h5, h6, _⟩ := h
  refine (rcut_any w1 q L S2 h2 hok k n hn).mono ?_
  rintro e w' ⟨rfl, hg⟩
  exact ⟨rfl, md_second h1 h3 h4 h5 h6 hg⟩
/-- What a step makes of the writes. -/
def stepL (L : List Wr) (kd : Nat) (k a : Int) (t : ByteArray) : List Wr := if kd = 0 then writeL L k a t else if kd = 1 then cutA L k a else outL k L
theorem RowV.fr2 {W W' : World} {M : Nat → Prop} {P : List Pt} {g : Nat} {v : Value} (h : RowV W P g v) (hf : Fr M W W') (hm : ¬ M g) : RowV W' P g v := by
  rcases h with h | ⟨h0, h⟩
  · exact .inl h
  · exact .inr ⟨h0, h.fr hf hm⟩
/-- Between the two Takes. -/
def MdT (w : World) (p q : Nat) (L L' : List Wr) (S : Nat → Prop) (w1 : World) : Prop :=
  ∃ S1 S2, Bf w1 p L' S1 ∧ Xf w1 q L S2 ∧ (∀ i, S1 i → S2 i → False) ∧ (∀ i, S1 i → S i) ∧ (∀ i, S2 i → S i) ∧ Fr S w w1 ∧ ∀ i, S i → i < w.heap.size
theorem take_pr (w : World) (p q : Nat) (L : List Wr) (S : Nat → Prop) (h : Pr w p q L S) (k : Int) :
    Calls Tryd.prog 22 #[.pointer (some ⟨p, 0, none⟩), .int .i64 k] w fun e w' => ∃ v g, e = .returned v ∧ RowV w' (sub k L) g v ∧ w.heap.size ≤ g ∧ MdT w p q L (outL k L) S w' := by
  obtain ⟨S1, S2, h1, h2, h3, h4, h5⟩ := h.ex
  refine (take_f w p L S1 h1 k).mono ?_
  rintro e w' ⟨v, g, rfl, g1, g2, g3, g4⟩
  exact ⟨v, g, rfl, g1, g2, S1, S2, g3, h2.fr g4 h3, h3, h4, h5, g4.mono (fun i _ x => h4 i x), h.up⟩
/-- The document's Take: the program's row stays as it is, and is nobody's. -/
theorem rtake_pr (w w1 : World) (p q : Nat) (L : List Wr) (S : Nat → Prop) (k : Int) (h : MdT w p q L (outL k L) S w1) (hok : Ok L) (v : Value) (g : Nat) (hv : RowV w1 (sub k L) g v) (hg : w.heap.size ≤ g) :
    Calls Tryd.prog 33 #[.pointer (some ⟨q, 0, none⟩), .int .i64 k] w1 fun e w' => ∃ u, e = .returned u ∧ OX w' u (subX k L) ∧ RowV w' (sub k L) g v ∧ ∃ S', Pr w' p q (outL k L) S' ∧ Fr S w w' ∧ (∀ i, S' i → S i ∨ w.heap.size ≤ i) ∧ (sub k L ≠ [] → ¬ S' g) := by
  obtain ⟨S1, S2, h1, h2, h3, h4, h5, h6, h7⟩ := h
  refine (rtake_any w1 q L S2 h2 hok k).mono ?_
  rintro e w' ⟨u, rfl, ho, S2', g1, g2, g3⟩
  refine ⟨u, rfl, ho, RowV.fr2 hv g2 (fun x => by have := h7 g (h5 g x); omega), fun i => S1 i ∨ S2' i, ⟨⟨S1, S2', h1.fr g2 (fun i x y => h3 i y x), g1, fun i x y => ?_, fun i x => .inl x, fun i x => .inr x⟩, fun i x => ?_⟩, h6.trans (g2.mono (fun i _ x => h5 i x)), fun i x => ?_, fun hne x => ?_⟩
  · rcases g3 i y with y | y
    · exact h3 i x y
    · have := h1.up i x; omega
  · rcases x with x | x
    · exact Nat.lt_of_lt_of_le (h1.up i x) g2.size
    · exact g1.up i x
  · rcases x with x | x
    · exact .inl (h4 i x)
    · rcases g3 i x with x | x
      · exact .inl (h5 i x)
      · exact .inr (Nat.le_trans h6.size x)
  · rcases x with x | x
    · have := h7 g (h4 g x); omega
    · rcases g3 g x with x | x
      · have := h7 g (h5 g x); omega
      · rcases hv with ⟨e, _⟩ | ⟨_, e⟩
        · exact hne e
        · have := e.lt; omega
end Go.Proofs.YtkcebbidmlnmmaaDoor
