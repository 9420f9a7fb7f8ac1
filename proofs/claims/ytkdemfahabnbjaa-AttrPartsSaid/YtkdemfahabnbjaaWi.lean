/- What AttrParts needs besides: least and greatest of a list; the mean between them. -/
import Derived.Test.YtkdemfahabnbjaaWf
namespace Go.Proofs.Ytkdemfahabnbjaa
open Go.RowKit

theorem Try.info3 : (Try.prog.info? 3).map (fun i => (i.zero, i.size, i.bytes)) = some (some (.int .i64 0), 1, 8) := by kernel_rfl

def q4 (l : List Int) : List Int := l.map fun x => x / 4
def leastOf (l : List Int) : Int := l.foldl min 2147483648
def mostOf (l : List Int) : Int := l.foldl max (-2147483648)

theorem q4_take (l : List Int) (k : Nat) (h : k < l.length) : q4 (l.take (k + 1)) = q4 (l.take k) ++ [l.getD k 0 / 4] := by
  unfold q4
  rw [List.take_succ_eq_append_getElem h, List.map_append]
  simp [List.getD_eq_getElem?_getD, h]
theorem least_snoc (l : List Int) (x : Int) : leastOf (l ++ [x]) = min (leastOf l) x := by simp [leastOf]
theorem most_snoc (l : List Int) (x : Int) : mostOf (l ++ [x]) = max (mostOf l) x := by simp [mostOf]

theorem foldl_min_le (l : List Int) : ∀ a : Int, l.foldl min a ≤ a ∧ ∀ x ∈ l, l.foldl min a ≤ x := by
  induction l with
  | nil => intro a; simp
  | cons y t ih =>
    intro a
    have h := ih (min a y)
    simp only [List.foldl_cons, List.mem_cons]
    refine ⟨by omega, ?_⟩
    rintro x (rfl | hx)
    · omega
    · exact h.2 x hx
theorem foldl_min_ge (l : List Int) (c : Int) : ∀ a : Int, c ≤ a → (∀ x ∈ l, c ≤ x) → c ≤ l.foldl min a := by
  induction l with
  | nil => intro a h _; simpa using h
  | cons y t ih =>
    intro a h hx
    have := hx y (by simp)
    exact ih (min a y) (by omega) (fun x h => hx x (by simp [h]))
theorem foldl_max_ge (l : List Int) : ∀ a : Int, a ≤ l.foldl max a ∧ ∀ x ∈ l, x ≤ l.foldl max a := by
  induction l with
  | nil => intro a; simp
  | cons y t ih =>
    intro a
    have h := ih (max a y)
    simp only [List.foldl_cons, List.mem_cons]
    refine ⟨by omega, ?_⟩
    rintro x (rfl | hx)
    · omega
    · exact h.2 x hx
theorem foldl_max_le (l : List Int) (c : Int) : ∀ a : Int, a ≤ c → (∀ x ∈ l, x ≤ c) → l.foldl max a ≤ c := by
  induction l with
  | nil => intro a h _; simpa using h
  | cons y t ih =>
    intro a h hx
    have := hx y (by simp)
    exact ih (max a y) (by omega) (fun x h => hx x (by simp [h]))

theorem q4_bounds {l : List Int} (h : ∀ x ∈ l, -2147483648 ≤ x ∧ x ≤ 2147483647) : ∀ x ∈ q4 l, -536870912 ≤ x ∧ x ≤ 536870911 := by
  intro x hx
  unfold q4 at hx
  obtain ⟨y, hy, rfl⟩ := List.mem_map.1 hx
  have := h y hy
  omega

theorem parts_end {l : List Int} (h0 : l ≠ []) (hl : l.length ≤ 1000) (h : ∀ x ∈ l, -2147483648 ≤ x ∧ x ≤ 2147483647) :
    JFl.lessB (JFl.meanB (q4 l)) (JFl.partB (leastOf (q4 l)) 1) = false ∧ JFl.lessB (JFl.partB (mostOf (q4 l)) 1) (JFl.meanB (q4 l)) = false ∧ (leastOf (q4 l) = mostOf (q4 l) → JFl.meanB (q4 l) = JFl.partB (leastOf (q4 l)) 1) := by
  have hb := q4_bounds h
  refine JFl.mean_between (by simpa [q4] using h0) (by simpa [q4] using hl) (fun x hx => ⟨(foldl_min_le _ _).2 x hx, (foldl_max_ge _ _).2 x hx⟩) ?_ ?_
  · exact foldl_min_ge _ _ _ (by omega) (fun x hx => (hb x hx).1)
  · exact foldl_max_le _ _ _ (by omega) (fun x hx => (hb x hx).2)

theorem ints_of_owned {w : World} {base : Nat} {v : Value} {n : Nat} {l : List Int} {e : TypeId} (h : w.ownsRow base e 1 v n (l.map (Value.int .i64))) (hn : 0 < n) :
    ∃ g cap, v = .slice (some ⟨g, 0, none⟩) n cap ∧ IntsAt .i64 w (some ⟨g, 0, none⟩) n l := by
  have hlen : l.length = n := by have := h.1; simpa using this
  rcases h.2 with ⟨_, h2⟩ | ⟨g, cap, cur, rfl, _, hg, _⟩
  · omega
  · refine ⟨g, cap, rfl, hlen, .inr ⟨g, 0, rfl, ?_, ?_⟩⟩
    · by_cases hh : g < w.heap.size
      · exact hh
      · rw [Array.getElem?_eq_none (by omega)] at hg; cases hg
    · intro i hi
      have := h.cellAt i (by omega)
      rw [Nat.zero_add, this]
      have hi' : i < l.length := by omega
      simp [List.getD_eq_getElem?_getD, hi']

theorem mem_getD {l : List Int} {k : Nat} (h : k < l.length) : l.getD k 0 ∈ l := by
  simp [List.getD_eq_getElem?_getD, h]
end Go.Proofs.Ytkdemfahabnbjaa
