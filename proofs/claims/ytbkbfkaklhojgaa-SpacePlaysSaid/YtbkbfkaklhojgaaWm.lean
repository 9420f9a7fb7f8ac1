/- Rows of truth values that are the call's own; SpaceOnce's rows and counts. -/
import Derived.Test.YtbkbfkaklhojgaaWk
import Derived.Test.YtbkbfkaklhojgaaAp
namespace Go.Proofs.Ytbkbfkaklhojgaa
open Go.RowKit Go.Shelf
theorem made_bools (N : Nat) : madeCells #[Value.bool false] N = (List.replicate N (Value.bool false)).toArray := by
  apply Array.ext
  · simp [size_madeCells]
  · intro i h1 h2
    simp [madeCells, Nat.mod_one]
theorem info4 : ∃ i z, Try.prog.info? 4 = some i ∧ i.zero = some z ∧ i.size = 1 ∧ i.bytes = 1 ∧ z.cells.size = 1 ∧ z = .bool false := ⟨_, _, rfl, rfl, rfl, rfl, rfl, rfl⟩
theorem make29 (w : World) (N : Nat) (h : N ≤ 400) : (Instr.makeSlice 29 (.int .i64 N) (.int .i64 N)).run Try.prog w = .ok (.slice (some ⟨w.heap.size, 0, none⟩) N N) (w.alloc (.cells (List.replicate N (Value.bool false)).toArray 4)) := by
  obtain ⟨i, hi, hz, hs, hby⟩ : ∃ i, Try.prog.info? 4 = some i ∧ i.zero = some (.bool false) ∧ i.size = 1 ∧ i.bytes = 1 := ⟨_, rfl, rfl, rfl, rfl⟩
  have := run_makeSlice (P := Try.prog) w 29 4 i (.bool false) Try.underlying29 hi hz .i64 .i64 N N (by omega) (by omega) (by rw [hs]; simp; omega) (by rw [hby]; omega) (by omega)
  rw [this, hs]
  simp only [Int.toNat_natCast, Nat.mul_one]
  rw [show (Value.bool false).cells = #[Value.bool false] from rfl, made_bools]
/-- A slice of truth values over a block of its own. -/
def BR (W : World) (v : Value) (g : Nat) (l : List Value) : Prop := ∃ cap pad, v = .slice (some ⟨g, 0, none⟩) l.length cap ∧ RowAt W g 4 (l ++ pad) ∧ l.length ≤ cap ∧ cap ≤ maxLen
theorem BR.lt {W : World} {v : Value} {g : Nat} {l : List Value} (h : BR W v g l) : g < W.heap.size := by
  obtain ⟨_, _, _, h2, _⟩ := h
  exact h2.lt
theorem BR.fr {M : Nat → Prop} {W W' : World} {v : Value} {g : Nat} {l : List Value} (h : BR W v g l) (hf : Fr M W W') (hm : ¬ M g) : BR W' v g l := by
  obtain ⟨c, p, h1, h2, h3⟩ := h
  exact ⟨c, p, h1, h2.fr hf hm, h3⟩
theorem BR.next {W W' : World} {v : Value} {g : Nat} {l : List Value} (h : BR W v g l) (hb : Below W.heap.size W W') : BR W' v g l := by
  obtain ⟨c, p, h1, h2, h3⟩ := h
  exact ⟨c, p, h1, h2.next hb, h3⟩
theorem BR.cell {W : World} {v : Value} {g : Nat} {l : List Value} (h : BR W v g l) (i : Nat) (hi : i < l.length) : W.cell? ⟨g, i, none⟩ = l[i]? := by
  obtain ⟨c, p, h1, h2, h3⟩ := h
  rw [h2.cell i, List.getElem?_append_left hi]
theorem BR.free {W : World} {v : Value} {g : Nat} {l : List Value} (h : BR W v g l) (i : Nat) : W.frozen? ⟨g, i, none⟩ = false := by
  obtain ⟨c, p, h1, h2, h3⟩ := h
  exact h2.free i
theorem BR.set {W : World} {v : Value} {g : Nat} {l : List Value} (h : BR W v g l) (i : Nat) (x : Value) (hi : i < l.length) : BR (W.setCell ⟨g, i, none⟩ x) v g (l.set i x) := by
  obtain ⟨c, p, h1, h2, h3, h4⟩ := h
  refine ⟨c, p, by rw [List.length_set]; exact h1, ?_, by rw [List.length_set]; exact h3, h4⟩
  have := h2.set i x
  rwa [List.set_append_left i x hi] at this
theorem BR.made (w : World) (N : Nat) (hN : N ≤ 400) : BR (w.alloc (.cells (List.replicate N (Value.bool false)).toArray 4)) (.slice (some ⟨w.heap.size, 0, none⟩) N N) w.heap.size (List.replicate N (.bool false)) := by
  refine ⟨N, [], by simp, ?_, by simp, by unfold maxLen; omega⟩
  rw [List.append_nil]
  exact RowAt.new w 4 _
theorem BR.slice {W : World} {v : Value} {g : Nat} {l : List Value} (h : BR W v g l) : SliceAt W (some ⟨g, 0, none⟩) l.length l := by
  have hlt := h.lt
  refine ⟨rfl, .inr ⟨g, 0, rfl, hlt, fun i hi => ?_⟩⟩
  rw [Nat.zero_add]; exact h.cell i hi
/-- append onto nothing: a copy. -/
theorem app29 (w : World) (g cap : Nat) (l : List Value) (h : BR w (.slice (some ⟨g, 0, none⟩) l.length cap) g l) (h1 : ∀ u ∈ l, u.oneCell' = true) (hl : l.length ≤ 400) (h0 : 0 < l.length) :
    ∃ g' cap' w', (Builtin.append_ #[29, 29] 29 #[.slice (some ⟨w.heap.size, 0, none⟩) 0 0, .slice (some ⟨g, 0, none⟩) l.length cap]).run Try.prog (w.alloc (.cells #[] 4)) = .ok (.slice (some ⟨g', 0, none⟩) l.length cap') w' ∧ BR w' (.slice (some ⟨g', 0, none⟩) l.length cap') g' l ∧ w.heap.size ≤ g' ∧ Below w.heap.size w w' := by
  obtain ⟨i0, z0, e1, e2, e3, e4, e5, _⟩ := info4
  have hal := (Below.refl w.heap.size w).alloc (Nat.le_refl _) (.cells #[] 4)
  have ho : (w.alloc (.cells #[] 4)).ownsRow w.heap.size 4 1 (.slice (some ⟨w.heap.size, 0, none⟩) 0 0) 0 [] := World.ownsRow_lit (base := w.heap.size) (e := 4) (size := 1) w #[] 0 (Nat.le_refl _) (by unfold maxLen; omega) rfl
  obtain ⟨vi, w4, hrun, hoi, _, _, hb4⟩ := run_app (P := Try.prog) (w.alloc (.cells #[] 4)) w.heap.size 29 29 4 i0 z0 1 Try.underlying29 e1 e2 e3 e4 e5 (.slice (some ⟨w.heap.size, 0, none⟩) 0 0) 0 [] ho (some ⟨g, 0, none⟩) l.length cap l (h.next hal).slice (fun h => by cases h) h1 (by unfold maxLen; omega) (by omega) hal.size
  rw [Nat.zero_add, List.nil_append] at hoi
  obtain ⟨_, hoi⟩ := hoi
  rcases hoi with ⟨_, hz⟩ | ⟨g', cap', cur, rfl, hge, hcur, hnc, hcm, hsz, htk⟩
  · omega
  · refine ⟨g', cap', w4, hrun, ⟨cap', cur.toList.drop l.length, rfl, ?_, hnc, hcm⟩, hge, hal.trans hb4⟩
    rw [Nat.mul_one] at htk
    have : l ++ cur.toList.drop l.length = cur.toList := by
      conv => lhs; lhs; rw [← htk]
      exact List.take_append_drop _ _
    rw [this]
    exact hcur
/-- The rows that SpaceOnce keeps. -/
def rowL (N : Nat) (p : Nat → Bool) : List Value := (List.range N).map fun k => .bool (p k)
theorem rowL_len (N : Nat) (p : Nat → Bool) : (rowL N p).length = N := by simp [rowL]
theorem rowL_get (N : Nat) (p : Nat → Bool) (k : Nat) (h : k < N) : (rowL N p)[k]? = some (.bool (p k)) := by simp [rowL, h]
theorem rowL_set (N : Nat) (p : Nat → Bool) (k : Nat) (b : Bool) : (rowL N p).set k (.bool b) = rowL N (fun j => if j = k then b else p j) := by
  apply List.ext_getElem
  · simp [rowL]
  · intro i h1 h2
    simp only [rowL, List.getElem_set, List.getElem_map, List.getElem_range]
    by_cases e : k = i
    · subst e; simp
    · have e' : ¬ i = k := fun h => e h.symm
      simp [e, e']
theorem rowL_one (N : Nat) (p : Nat → Bool) : ∀ u ∈ rowL N p, u.oneCell' = true := by
  intro u hu
  obtain ⟨k, _, rfl⟩ := List.mem_map.1 hu
  rfl
theorem rowL_congr {N : Nat} {p q : Nat → Bool} (h : ∀ k, k < N → p k = q k) : rowL N p = rowL N q := by
  unfold rowL
  apply List.map_congr_left
  intro k hk
  rw [h k (List.mem_range.1 hk)]
theorem rowL_false (N : Nat) : List.replicate N (Value.bool false) = rowL N (fun _ => false) := by
  apply List.ext_getElem
  · simp [rowL]
  · intro i h1 h2; simp [rowL]
def tB (f : Nat → Nat) (k : Nat) : Bool := decide (f k = 1 ∨ f k = 2)
def wB (f : Nat → Nat) (k : Nat) : Bool := decide (f k = 3)
def kB (f : Nat → Nat) (k : Nat) : Bool := decide (f k = 1 ∨ f k = 3)
theorem cnt_sum (f : Nat → Nat) (h : ∀ i, f i < 4) : ∀ N : Nat, cnt N f 0 + cnt N f 1 + cnt N f 2 + cnt N f 3 = N
  | 0 => by simp [cnt]
  | N + 1 => by
    have ih := cnt_sum f h N
    have h4 := h N
    simp only [cnt]
    have : f N = 0 ∨ f N = 1 ∨ f N = 2 ∨ f N = 3 := by omega
    rcases this with e | e | e | e <;> rw [e] <;> simp <;> omega
end Go.Proofs.Ytbkbfkaklhojgaa
