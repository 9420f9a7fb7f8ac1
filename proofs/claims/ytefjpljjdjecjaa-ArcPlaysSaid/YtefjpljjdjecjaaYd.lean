/- The document's cache, in memory; room. -/
import Derived.Test.YtefjpljjdjecjaaYc
import Derived.Deep.CutBlock
import Derived.Deep.CutRange
import Derived.Deep.DeepCutAuto
namespace Go.Proofs.Ytefjpljjdjecjaa
open Go.RowKit
/-- The document's cache stands as p says, its rows by the values v1 .. v4. -/
structure XV (w : World) (xb : Nat) (p : Pu) (v1 v2 v3 v4 : Value) : Prop where
  row : RowAt w xb 58 [.int .i64 p.room, .int .i64 p.target, v1, v2, v3, v4]
  ha : HA w v1 p.a
  hb : HA w v2 p.b
  hc : HA w v3 p.c
  hd : HA w v4 p.d
def XR (w : World) (xb : Nat) (p : Pu) : Prop := ∃ v1 v2 v3 v4, XV w xb p v1 v2 v3 v4
theorem HA.set {w : World} {v : Value} {L : List He} (h : HA w v L) {xb : Nat} {l : List Value} (hr : RowAt w xb 58 l) (i : Nat) (u : Value) : HA (w.setCell ⟨xb, i, none⟩ u) v L :=
  h.fr (M := fun k => k = xb) ((Fr.refl (fun k => k = xb) w).setCell (b := xb) rfl u) fun k cs fz hk e => by
    subst e
    unfold RowAt at hr
    rw [hr] at hk
    cases hk
section
variable {w w' : World} {xb : Nat} {p : Pu} {v1 v2 v3 v4 u : Value}
theorem XV.next (h : XV w xb p v1 v2 v3 v4) (hb : Below w.heap.size w w') : XV w' xb p v1 v2 v3 v4 := ⟨h.row.next hb, h.ha.next hb, h.hb.next hb, h.hc.next hb, h.hd.next hb⟩
theorem XR.next (h : XR w xb p) (hb : Below w.heap.size w w') : XR w' xb p := by
  obtain ⟨v1, v2, v3, v4, h⟩ := h
  exact ⟨v1, v2, v3, v4, h.next hb⟩
theorem XV.setT (h : XV w xb p v1 v2 v3 v4) (t : Int) : XV (w.setCell ⟨xb, 1, none⟩ (.int .i64 t)) xb { p with target := t } v1 v2 v3 v4 := ⟨h.row.set 1 (.int .i64 t), h.ha.set h.row 1 _, h.hb.set h.row 1 _, h.hc.set h.row 1 _, h.hd.set h.row 1 _⟩
theorem XV.setA (h : XV w xb p v1 v2 v3 v4) {L : List He} (hu : HA w u L) : XV (w.setCell ⟨xb, 2, none⟩ u) xb { p with a := L } u v2 v3 v4 := ⟨h.row.set 2 u, hu.set h.row 2 _, h.hb.set h.row 2 _, h.hc.set h.row 2 _, h.hd.set h.row 2 _⟩
theorem XV.setB (h : XV w xb p v1 v2 v3 v4) {L : List He} (hu : HA w u L) : XV (w.setCell ⟨xb, 3, none⟩ u) xb { p with b := L } v1 u v3 v4 := ⟨h.row.set 3 u, h.ha.set h.row 3 _, hu.set h.row 3 _, h.hc.set h.row 3 _, h.hd.set h.row 3 _⟩
theorem XV.setC (h : XV w xb p v1 v2 v3 v4) {L : List He} (hu : HA w u L) : XV (w.setCell ⟨xb, 4, none⟩ u) xb { p with c := L } v1 v2 u v4 := ⟨h.row.set 4 u, h.ha.set h.row 4 _, h.hb.set h.row 4 _, hu.set h.row 4 _, h.hd.set h.row 4 _⟩
theorem XV.setD (h : XV w xb p v1 v2 v3 v4) {L : List He} (hu : HA w u L) : XV (w.setCell ⟨xb, 5, none⟩ u) xb { p with d := L } v1 v2 v3 u := ⟨h.row.set 5 u, h.ha.set h.row 5 _, h.hb.set h.row 5 _, h.hc.set h.row 5 _, hu.set h.row 5 _⟩
end
theorem built78a (k : Int) : Try.prog.built 78 [(0, .int .i64 k)] = some (had (k, none)).toArray := by kernel_rfl
theorem built78b (k c : Int) : Try.prog.built 78 [(0, .int .i64 k), (1, .agg (blk c).toArray)] = some (had (k, some c)).toArray := by kernel_rfl
section
variable {o : Oper} {a : Act} {w : World} {R : Value → World → Prop}
theorem runs_buildH {t : TypeId} {parts : Array (Nat × Operand)} {v : List Value} (ho : o.op = .build t parts) (l : List (Nat × Value)) (hl : (parts.map fun (i, x) => (i, a.eval x)).toList = l) (hb : Try.prog.built t l = some v.toArray) (h : R (.agg v.toArray) w) : Runs Try.prog o a w R := by
  unfold Runs execOp
  simp only [ho, Sem.run_bind, run_build w t _ v.toArray (hl ▸ hb), Result.andThen_ok]
  exact h
end
/-- A value that reads so. -/
def HAv (L : List He) (u : Value) (w : World) : Prop := HA w u L
theorem hav_stable (L : List He) : ∀ u, StableF (fun u u' => Below u.heap.size u u') (HAv L u) := fun _ _ _ hb h => HA.next h hb
theorem HA.tail {W : World} {b off a c : Nat} {L : List He} (h : HA W (.slice (some ⟨b, off, none⟩) a c) L) (ha : 0 < a) : HA W (sliced (some ⟨b, off, none⟩) 1 a c 513) L.tail := by
  have hl := h.len.1
  obtain ⟨A2, c2, e1, h1⟩ := slicedH_from h 1 (by omega)
  rw [e1, ← List.drop_one]
  exact h1
theorem HA.tail1 {W : World} {b off a c : Nat} {L : List He} (h : HA W (.slice (some ⟨b, off, none⟩) a c) L) (ha : 0 < a) (hc : c = 1) : HA W (.slice (some ⟨b, off, none⟩) (a - 1) 0) L.tail := by
  have := h.tail ha
  unfold sliced at this
  rw [if_pos hc] at this
  subst hc
  exact this
theorem HA.tail2 {W : World} {b off a c : Nat} {L : List He} (h : HA W (.slice (some ⟨b, off, none⟩) a c) L) (ha : 0 < a) (hc : c ≠ 1) : HA W (.slice (some ⟨b, off + 513, none⟩) (a - 1) (c - 1)) L.tail := by
  have := h.tail ha
  unfold sliced at this
  rw [if_neg hc] at this
  simpa [Addr.add] using this
end Go.Proofs.Ytefjpljjdjecjaa
