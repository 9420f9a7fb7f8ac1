/- The rows of a cache as lists of items in memory. -/
import Derived.Test.YtefjpljjdjecjaaMp
import Derived.Test.YtefjpljjdjecjaaSe
namespace Go.Proofs.Ytefjpljjdjecjaa
open Go.RowKit

/-- An item: its block, its key, its data's block, what lies there. -/
structure It where
  b : Nat
  key : Int
  d : Option Nat
  v : List Value
def ptr : Option Nat → Value
  | none => .pointer none
  | some b => .pointer (some ⟨b, 0, none⟩)
def nx : List It → Option Nat → Option Nat
  | [], n => n
  | x :: _, _ => some x.b
def lastB : List It → Option Nat → Option Nat
  | [], p => p
  | x :: L, _ => lastB L (some x.b)
def itCells (x : It) (r : Int) (p n : Option Nat) : List Value := [.int .i64 x.key, .int .i64 r, ptr x.d, ptr p, ptr n]
def Lk (w : World) (r : Int) : Option Nat → List It → Option Nat → Prop
  | _, [], _ => True
  | p, x :: L, n => RowAt w x.b 73 (itCells x r p (nx L n)) ∧ Lk w r (some x.b) L n
theorem nx_append (L1 L2 : List It) (n : Option Nat) : nx (L1 ++ L2) n = nx L1 (nx L2 n) := by cases L1 <;> rfl
theorem lastB_append (L1 L2 : List It) (p : Option Nat) : lastB (L1 ++ L2) p = lastB L2 (lastB L1 p) := by
  induction L1 generalizing p with
  | nil => rfl
  | cons x L ih => exact ih _
theorem Lk_append {w : World} {r : Int} {p n : Option Nat} {L1 L2 : List It} : Lk w r p (L1 ++ L2) n ↔ Lk w r p L1 (nx L2 n) ∧ Lk w r (lastB L1 p) L2 n := by
  induction L1 generalizing p with
  | nil => simp [Lk, lastB]
  | cons x L ih =>
    simp only [List.cons_append, Lk, ih, nx_append, lastB, and_assoc]
theorem Lk.fr {M : Nat → Prop} {w w' : World} {r : Int} {p n : Option Nat} {L : List It} (h : Lk w r p L n) (hf : Fr M w w') (hm : ∀ x ∈ L, ¬ M x.b) : Lk w' r p L n := by
  induction L generalizing p with
  | nil => trivial
  | cons x L ih => exact ⟨h.1.fr hf (hm x (List.mem_cons_self ..)), ih h.2 fun y hy => hm y (List.mem_cons_of_mem _ hy)⟩
theorem Lk.set {w : World} {r : Int} {p n : Option Nat} {L : List It} (h : Lk w r p L n) (c i : Nat) (v : Value) (hm : ∀ x ∈ L, x.b ≠ c) : Lk (w.setCell ⟨c, i, none⟩ v) r p L n := by
  induction L generalizing p with
  | nil => trivial
  | cons x L ih => exact ⟨h.1.other i v (hm x (List.mem_cons_self ..)), ih h.2 fun y hy => hm y (List.mem_cons_of_mem _ hy)⟩
theorem Lk.mem {w : World} {r : Int} {p n : Option Nat} {L : List It} (h : Lk w r p L n) {x : It} (hx : x ∈ L) : ∃ p' n', RowAt w x.b 73 (itCells x r p' n') := by
  induction L generalizing p with
  | nil => cases hx
  | cons y L ih =>
    rcases List.mem_cons.1 hx with rfl | hx
    · exact ⟨_, _, h.1⟩
    · exact ih h.2 hx
theorem Lk.drew {w : World} {r : Int} {p n : Option Nat} {L : List It} (h : Lk w r p L n) : Lk w.drew r p L n := by
  induction L generalizing p with
  | nil => trivial
  | cons x L ih => exact ⟨h.1.drew, ih h.2⟩

def rowCells (L : List It) : List Value := [ptr (nx L none), ptr (lastB L none), .int .i64 L.length]
def cells (R : Nat → List It) (m : Value) (room target : Int) : List Value := rowCells (R 0) ++ rowCells (R 1) ++ rowCells (R 2) ++ rowCells (R 3) ++ [m, .int .i64 room, .int .i64 target]
def allI (R : Nat → List It) : List It := R 0 ++ R 1 ++ R 2 ++ R 3
def upd (R : Nat → List It) (r : Nat) (L : List It) : Nat → List It := fun i => if i = r then L else R i
/-- The rows lie in memory. -/
structure RA (w : World) (cb : Nat) (R : Nat → List It) (m : Value) (room target : Int) : Prop where
  row : RowAt w cb 69 (cells R m room target)
  lk : ∀ r : Nat, r < 4 → Lk w (r : Int) none (R r) none
  nd : ((allI R).map (·.b)).Nodup
  ne : ∀ x ∈ allI R, x.b ≠ cb
  len : ∀ r : Nat, r < 4 → (R r).length ≤ 100000
theorem mem_allI {R : Nat → List It} {x : It} : x ∈ allI R ↔ ∃ r, r < 4 ∧ x ∈ R r := by
  unfold allI
  simp only [List.mem_append]
  constructor
  · rintro (((h | h) | h) | h)
    · exact ⟨0, by omega, h⟩
    · exact ⟨1, by omega, h⟩
    · exact ⟨2, by omega, h⟩
    · exact ⟨3, by omega, h⟩
  · rintro ⟨r, hr, h⟩
    match r, hr with
    | 0, _ => exact .inl (.inl (.inl h))
    | 1, _ => exact .inl (.inl (.inr h))
    | 2, _ => exact .inl (.inr h)
    | 3, _ => exact .inr h
theorem cells_len (R : Nat → List It) (m : Value) (room target : Int) : (cells R m room target).length = 15 := rfl
/-- A row's three cells are set anew. -/
theorem cells_upd (R : Nat → List It) (m : Value) (room target : Int) (r : Nat) (hr : r < 4) (L : List It) :
    (((cells R m room target).set (r * 3) (ptr (nx L none))).set (r * 3 + 1) (ptr (lastB L none))).set (r * 3 + 2) (.int .i64 L.length) = cells (upd R r L) m room target := by
  match r, hr with
  | 0, _ => rfl
  | 1, _ => rfl
  | 2, _ => rfl
  | 3, _ => rfl
end Go.Proofs.Ytefjpljjdjecjaa
