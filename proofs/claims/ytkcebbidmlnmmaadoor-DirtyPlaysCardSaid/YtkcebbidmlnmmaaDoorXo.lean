/- A slice of steps that came in: a kind, two numbers and a text each. -/
import Derived.Test.YtkcebbidmlnmmaaDoorOp
import Derived.Deep.Slices
import Derived.Deep.Fields
import Derived.ChangeSame
namespace Go.Proofs.YtkcebbidmlnmmaaDoor
set_option maxRecDepth 100000
open Go.ChangeShapes Go.WideShapes Go.ChangeAt Go.RowKit Go.Deep
structure So where
  kind : Nat
  n : Int
  m : Int
  t : ByteArray
def So.ok (s : So) : Prop := s.kind < 256 ∧ (-9223372036854775808 ≤ s.n ∧ s.n ≤ 9223372036854775807) ∧ -9223372036854775808 ≤ s.m ∧ s.m ≤ 9223372036854775807
/-- The step at these cells. -/
def SoAt (w : World) (b o : Nat) (s : So) : Prop := w.cell? ⟨b, o, none⟩ = some (.int .u8 s.kind) ∧ w.cell? ⟨b, o + 1, none⟩ = some (.int .i64 s.n) ∧ w.cell? ⟨b, o + 2, none⟩ = some (.int .i64 s.m) ∧ w.cell? ⟨b, o + 3, none⟩ = some (.string s.t)
/-- A slice of steps, as it is read. -/
def OpsAt (w : World) (a : Option Addr) (n : Nat) (l : List So) : Prop :=
  l.length = n ∧ (∀ s ∈ l, s.ok) ∧ (n = 0 ∨ ∃ b off, a = some ⟨b, off, none⟩ ∧ b < w.heap.size ∧ ∀ i s, l[i]? = some s → SoAt w b (off + i * 4) s)
theorem OpsAt.next {w w' : World} {a : Option Addr} {n : Nat} {l : List So} (h : OpsAt w a n l) (hb : Below w.heap.size w w') : OpsAt w' a n l := by
  obtain ⟨h1, h2, h3⟩ := h
  refine ⟨h1, h2, ?_⟩
  rcases h3 with h3 | ⟨b, off, e, hl, hc⟩
  · exact .inl h3
  · refine .inr ⟨b, off, e, Nat.lt_of_lt_of_le hl hb.size, fun i s hs => ?_⟩
    unfold SoAt
    rw [hb.cell hl, hb.cell hl, hb.cell hl, hb.cell hl]
    exact hc i s hs
theorem OpsAt.get {w : World} {a : Option Addr} {n : Nat} {l : List So} (h : OpsAt w a n l) (i : Nat) (hi : i < n) : ∃ b off, a = some ⟨b, off, none⟩ ∧ b < w.heap.size ∧ ∀ i s, l[i]? = some s → SoAt w b (off + i * 4) s := by
  rcases h.2.2 with h | h
  · omega
  · exact h
section
variable {H : Type} {enc : TypeId × Value → H} {w : World} {base : Nat} {spare : Nat → Bool} {held : Bool} {r : Reach} {b0 : Nat} {v : Value} {d : DataW H} {p : List MemPlace}
theorem cellsE : Tryd.prog.cellsOf 32 = 4 := by kernel_rfl
theorem cells3' : Tryd.prog.cellsOf 3 = 1 := by kernel_rfl
theorem cells9' : Tryd.prog.cellsOf 9 = 1 := by kernel_rfl
theorem cells5' : Tryd.prog.cellsOf 5 = 1 := by kernel_rfl
theorem op_open {fuel : Nat} {cs : List Value} {x : DataW H × List MemPlace} (h : DataW.trod enc Tryd.prog w base spare held fuel 32 cs = some x) : ∃ s : So, s.ok ∧ cs = [.int .u8 s.kind, .int .i64 s.n, .int .i64 s.m, .string s.t] := by
  obtain ⟨ys, n', hn', hy, hlen, hyl, hf⟩ := DataW.trod_struct Tryd.underlying32 h
  rw [cellsE] at hlen
  match cs, hlen with
  | [c0, c1, c2, c3], _ =>
    match ys, hyl with
    | [y0, y1, y2, y3], _ =>
      have h0 : DataW.trod enc Tryd.prog w base spare held n' 5 (([c0, c1, c2, c3].drop 0).take (Tryd.prog.cellsOf 5)) = some y0 := hf 0 _ rfl
      have h1 : DataW.trod enc Tryd.prog w base spare held n' 3 (([c0, c1, c2, c3].drop 1).take (Tryd.prog.cellsOf 3)) = some y1 := hf 1 _ rfl
      have h2 : DataW.trod enc Tryd.prog w base spare held n' 3 (([c0, c1, c2, c3].drop 2).take (Tryd.prog.cellsOf 3)) = some y2 := hf 2 _ rfl
      have h3 : DataW.trod enc Tryd.prog w base spare held n' 9 (([c0, c1, c2, c3].drop 3).take (Tryd.prog.cellsOf 9)) = some y3 := hf 3 _ rfl
      rw [cells5'] at h0
      rw [cells3'] at h1 h2
      rw [cells9'] at h3
      obtain ⟨k, e0, _, w0⟩ := DataW.trod_int (k := .u8) (x := y0) Tryd.underlying5 h0
      obtain ⟨y, e1, _, w1⟩ := DataW.trod_int (k := .i64) (x := y1) Tryd.underlying3 h1
      obtain ⟨z, e2, _, w2⟩ := DataW.trod_int (k := .i64) (x := y2) Tryd.underlying3 h2
      obtain ⟨t, e3, _⟩ := DataW.trod_string (x := y3) Tryd.underlying9 h3
      simp at e0 e1 e2 e3
      subst e0 e1 e2 e3
      obtain ⟨k', rfl⟩ := wf_u8 w0
      have hw := wf_i64 w1
      have hz := wf_i64 w2
      exact ⟨⟨k'.toNat, y, z, t⟩, ⟨k'.toNat_lt, hw, hz⟩, rfl⟩
theorem open_ops_at (hv : Value.okWide Tryd.prog w r b0 26 v) (h : DataW.Trod enc Tryd.prog w base spare held 26 v d p) :
    ∃ (a : Option Addr) (len cap : Nat) (l : List So), v = .slice a len cap ∧ len ≤ cap ∧ cap ≤ maxLen ∧ OpsAt w a len l := by
  obtain ⟨a0, len0, cap0, rfl⟩ := okWide_slice Tryd.underlying26 hv
  obtain ⟨fuel, hf⟩ := h
  rcases open_slice Tryd.underlying26 hf with ⟨hcs, _⟩ | ⟨x, len, cap, m, n, D, Pl, hcs, _, hl, hm, hmm, _, hi⟩
  · simp [Value.cells] at hcs
    obtain ⟨rfl, rfl, rfl⟩ := hcs
    exact ⟨none, 0, 0, [], rfl, Nat.le_refl _, Nat.zero_le _, rfl, by simp, .inl rfl⟩
  · simp [Value.cells] at hcs
    obtain ⟨rfl, rfl, rfl⟩ := hcs
    have hlm : len0 ≤ m := by rw [hmm]; split <;> omega
    have hst : ∀ i, i < len0 → ∃ s : So, s.ok ∧ w.cell? (x.add (i * 4)) = some (.int .u8 s.kind) ∧ w.cell? (x.add (i * 4 + 1)) = some (.int .i64 s.n) ∧ w.cell? (x.add (i * 4 + 2)) = some (.int .i64 s.m) ∧ w.cell? (x.add (i * 4 + 3)) = some (.string s.t) := by
      intro i hil
      obtain ⟨cs', hc, ht'⟩ := hi i (by omega)
      rw [cellsE] at hc
      obtain ⟨s, hs, rfl⟩ := op_open ht'
      obtain ⟨_, hcl, hat⟩ := World.cells?_some hc
      refine ⟨s, hs, ?_, ?_, ?_, ?_⟩
      · have := hat 0 (by omega)
        simpa [Go.Deep.add_add] using this
      · have := hat 1 (by omega)
        simpa [Go.Deep.add_add] using this
      · have := hat 2 (by omega)
        simpa [Go.Deep.add_add] using this
      · have := hat 3 (by omega)
        simpa [Go.Deep.add_add] using this
    have hch : ∀ i, ∃ s : So, i < len0 → s.ok ∧ w.cell? (x.add (i * 4)) = some (.int .u8 s.kind) ∧ w.cell? (x.add (i * 4 + 1)) = some (.int .i64 s.n) ∧ w.cell? (x.add (i * 4 + 2)) = some (.int .i64 s.m) ∧ w.cell? (x.add (i * 4 + 3)) = some (.string s.t) := by
      intro i
      by_cases hil : i < len0
      · obtain ⟨s, hs⟩ := hst i hil
        exact ⟨s, fun _ => hs⟩
      · exact ⟨⟨0, 0, 0, ⟨#[]⟩⟩, fun h => absurd h hil⟩
    obtain ⟨F, hF⟩ := Classical.axiomOfChoice hch
    refine ⟨some x, len0, cap0, (List.range len0).map F, rfl, hl, hm, by simp, ?_, ?_⟩
    · intro s hs
      obtain ⟨i, hil, rfl⟩ := List.mem_map.1 hs
      exact (hF i (List.mem_range.1 hil)).1
    · by_cases h0 : len0 = 0
      · exact .inl h0
      · right
        obtain ⟨b, off, spot⟩ := x
        obtain ⟨_, h1, _⟩ := hF 0 (by omega)
        have hspot : spot = none := by simpa [Addr.add] using World.cell?_spot h1
        subst hspot
        have e1 : ∀ i, (⟨b, off, none⟩ : Addr).add i = ⟨b, off + i, none⟩ := by
          intro i
          unfold Addr.add; split
          · rename_i h; subst h; rfl
          · rfl
        refine ⟨b, off, rfl, ?_, ?_⟩
        · have h2 : w.cell? ⟨b, off + 0 * 3, none⟩ = some (.int .u8 (F 0).kind) := by rw [← e1]; exact h1
          by_cases hh : b < w.heap.size
          · exact hh
          · unfold World.cell? at h2
            rw [Array.getElem?_eq_none (by simpa using hh)] at h2
            cases h2
        · intro i s hs
          rw [List.getElem?_map] at hs
          by_cases hil : i < len0
          · rw [List.getElem?_range hil] at hs
            simp at hs
            subst hs
            obtain ⟨_, k1, k2, k3, k4⟩ := hF i hil
            rw [e1] at k1 k2 k3 k4
            exact ⟨k1, by rw [Nat.add_assoc]; exact k2, by rw [Nat.add_assoc]; exact k3, by rw [Nat.add_assoc]; exact k4⟩
          · rw [List.getElem?_eq_none (by simp; omega)] at hs
            cases hs
end
end Go.Proofs.YtkcebbidmlnmmaaDoor
