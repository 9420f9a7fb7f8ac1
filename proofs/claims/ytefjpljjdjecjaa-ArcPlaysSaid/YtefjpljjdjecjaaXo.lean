/- A slice of steps that came in. -/
import Derived.Test.YtefjpljjdjecjaaXa
import Derived.Test.YtefjpljjdjecjaaOp
import Derived.Deep.Slices
import Derived.Deep.Fields
import Derived.ChangeSame
namespace Go.Proofs.Ytefjpljjdjecjaa
open Go.ChangeShapes Go.WideShapes Go.ChangeAt Go.RowKit Go.Deep
section
variable {H : Type} {enc : TypeId × Value → H} {w : World} {base : Nat} {spare : Nat → Bool} {held : Bool} {r : Reach} {b0 : Nat} {v : Value} {d : DataW H} {p : List MemPlace}
theorem cells43 : Try.prog.cellsOf 43 = 3 := by kernel_rfl
theorem cells3 : Try.prog.cellsOf 3 = 1 := by kernel_rfl
theorem step_open {fuel : Nat} {cs : List Value} {x : DataW H × List MemPlace} (h : DataW.trod enc Try.prog w base spare held fuel 43 cs = some x) : ∃ s : St, s.ok ∧ cs = [.int .u8 s.kind, .int .i64 s.key, .int .u8 s.c] := by
  obtain ⟨ys, n', hn', hy, hlen, hyl, hf⟩ := DataW.trod_struct Try.underlying43 h
  rw [cells43] at hlen
  match cs, hlen with
  | [c0, c1, c2], _ =>
    match ys, hyl with
    | [y0, y1, y2], _ =>
      have h0 : DataW.trod enc Try.prog w base spare held n' 5 (([c0, c1, c2].drop 0).take (Try.prog.cellsOf 5)) = some y0 := hf 0 _ rfl
      have h1 : DataW.trod enc Try.prog w base spare held n' 3 (([c0, c1, c2].drop 1).take (Try.prog.cellsOf 3)) = some y1 := hf 1 _ rfl
      have h2 : DataW.trod enc Try.prog w base spare held n' 5 (([c0, c1, c2].drop 2).take (Try.prog.cellsOf 5)) = some y2 := hf 2 _ rfl
      rw [cells5] at h0 h2
      rw [cells3] at h1
      obtain ⟨k, e0, _, w0⟩ := DataW.trod_int (k := .u8) (x := y0) Try.underlying5 h0
      obtain ⟨y, e1, _, w1⟩ := DataW.trod_int (k := .i64) (x := y1) Try.underlying3 h1
      obtain ⟨c, e2, _, w2⟩ := DataW.trod_int (k := .u8) (x := y2) Try.underlying5 h2
      simp at e0 e1 e2
      subst e0 e1 e2
      obtain ⟨k', rfl⟩ := wf_u8 w0
      obtain ⟨c', rfl⟩ := wf_u8 w2
      have hw := wf_i64 w1
      exact ⟨⟨k'.toNat, y, c'.toNat⟩, ⟨k'.toNat_lt, c'.toNat_lt, hw.1, hw.2⟩, rfl⟩
theorem open_steps_at (hv : Value.okWide Try.prog w r b0 41 v) (h : DataW.Trod enc Try.prog w base spare held 41 v d p) :
    ∃ (a : Option Addr) (len cap : Nat) (l : List St), v = .slice a len cap ∧ len ≤ cap ∧ cap ≤ maxLen ∧ StepsAt w a len l := by
  obtain ⟨a0, len0, cap0, rfl⟩ := okWide_slice Try.underlying41 hv
  obtain ⟨fuel, hf⟩ := h
  rcases open_slice Try.underlying41 hf with ⟨hcs, _⟩ | ⟨x, len, cap, m, n, D, Pl, hcs, _, hl, hm, hmm, _, hi⟩
  · simp [Value.cells] at hcs
    obtain ⟨rfl, rfl, rfl⟩ := hcs
    exact ⟨none, 0, 0, [], rfl, Nat.le_refl _, Nat.zero_le _, rfl, by simp, .inl rfl⟩
  · simp [Value.cells] at hcs
    obtain ⟨rfl, rfl, rfl⟩ := hcs
    have hlm : len0 ≤ m := by rw [hmm]; split <;> omega
    have hst : ∀ i, i < len0 → ∃ s : St, s.ok ∧ w.cell? (x.add (i * 3)) = some (.int .u8 s.kind) ∧ w.cell? (x.add (i * 3 + 1)) = some (.int .i64 s.key) ∧ w.cell? (x.add (i * 3 + 2)) = some (.int .u8 s.c) := by
      intro i hil
      obtain ⟨cs', hc, ht'⟩ := hi i (by omega)
      rw [cells43] at hc
      obtain ⟨s, hs, rfl⟩ := step_open ht'
      obtain ⟨_, hcl, hat⟩ := World.cells?_some hc
      refine ⟨s, hs, ?_, ?_, ?_⟩
      · have := hat 0 (by omega)
        simpa [Go.Deep.add_add] using this
      · have := hat 1 (by omega)
        simpa [Go.Deep.add_add] using this
      · have := hat 2 (by omega)
        simpa [Go.Deep.add_add] using this
    have hch : ∀ i, ∃ s : St, i < len0 → s.ok ∧ w.cell? (x.add (i * 3)) = some (.int .u8 s.kind) ∧ w.cell? (x.add (i * 3 + 1)) = some (.int .i64 s.key) ∧ w.cell? (x.add (i * 3 + 2)) = some (.int .u8 s.c) := by
      intro i
      by_cases hil : i < len0
      · obtain ⟨s, hs⟩ := hst i hil
        exact ⟨s, fun _ => hs⟩
      · exact ⟨⟨0, 0, 0⟩, fun h => absurd h hil⟩
    obtain ⟨F, hF⟩ := Classical.axiomOfChoice hch
    refine ⟨some x, len0, cap0, (List.range len0).map F, rfl, hl, hm, by simp, ?_, ?_⟩
    · intro s hs
      obtain ⟨i, hil, rfl⟩ := List.mem_map.1 hs
      exact (hF i (List.mem_range.1 hil)).1
    · by_cases h0 : len0 = 0
      · exact .inl h0
      · right
        obtain ⟨b, off, spot⟩ := x
        obtain ⟨_, h1, _⟩ := hF 0 (by omega)
        have hspot : spot = none := by simpa [Addr.add] using World.cell?_spot h1
        subst hspot
        have e1 : ∀ i, (⟨b, off, none⟩ : Addr).add i = ⟨b, off + i, none⟩ := by
          intro i
          unfold Addr.add; split
          · rename_i h; subst h; rfl
          · rfl
        refine ⟨b, off, rfl, ?_, ?_⟩
        · have h2 : w.cell? ⟨b, off + 0 * 3, none⟩ = some (.int .u8 (F 0).kind) := by rw [← e1]; exact h1
          by_cases hh : b < w.heap.size
          · exact hh
          · unfold World.cell? at h2
            rw [Array.getElem?_eq_none (by simpa using hh)] at h2
            cases h2
        · intro i s hs
          rw [List.getElem?_map] at hs
          by_cases hil : i < len0
          · rw [List.getElem?_range hil] at hs
            simp at hs
            subst hs
            obtain ⟨_, k1, k2, k3⟩ := hF i hil
            rw [e1] at k1 k2 k3
            exact ⟨k1, by rw [Nat.add_assoc]; exact k2, by rw [Nat.add_assoc]; exact k3⟩
          · rw [List.getElem?_eq_none (by simp; omega)] at hs
            cases hs
end
end Go.Proofs.Ytefjpljjdjecjaa
