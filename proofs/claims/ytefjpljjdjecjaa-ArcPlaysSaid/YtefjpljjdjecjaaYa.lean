/- The document's rows of keys with blocks, in memory. -/
import Derived.Test.YtefjpljjdjecjaaWq
import Derived.Test.YtefjpljjdjecjaaSe
import Derived.Lib.SliceRun
import Derived.Deep.MidRow
namespace Go.Proofs.Ytefjpljjdjecjaa
open Go.RowKit
abbrev He := Int × Option Int
def had (e : He) : List Value := .int .i64 e.1 :: blk (e.2.getD 0)
theorem had_len (e : He) : (had e).length = 513 := by unfold had; rw [List.length_cons, blk_len]
def flatH (L : List He) : List Value := L.flatMap had
theorem flatH_cons (e : He) (L : List He) : flatH (e :: L) = had e ++ flatH L := rfl
theorem flatH_append (L L' : List He) : flatH (L ++ L') = flatH L ++ flatH L' := by simp [flatH]
theorem flatH_len : ∀ L : List He, (flatH L).length = L.length * 513
  | [] => rfl
  | p :: L => by rw [flatH_cons, List.length_append, had_len, flatH_len L, List.length_cons]; omega
theorem flatH_at : ∀ (L : List He) (i : Nat) (e : He), L[i]? = some e → ∀ j, j < 513 → (flatH L)[i * 513 + j]? = (had e)[j]?
  | [], _, _, h => by simp at h
  | q :: L, 0, p, h => by
    obtain rfl : q = p := by simpa using h
    intro j hj
    rw [flatH_cons, Nat.zero_mul, Nat.zero_add, List.getElem?_append_left (by rw [had_len]; exact hj)]
  | q :: L, i + 1, p, h => by
    intro j hj
    rw [flatH_cons, List.getElem?_append_right (by rw [had_len]; omega), had_len, show (i + 1) * 513 + j - 513 = i * 513 + j by omega]
    exact flatH_at L i p (by simpa using h) j hj
theorem had_one (e : He) : ∀ u ∈ had e, u.oneCell' = true := by
  intro u hu
  unfold had at hu
  rcases List.mem_cons.1 hu with rfl | h
  · rfl
  · have := (blk_one (e.2.getD 0)).2
    rw [Array.all_eq_true_iff_forall_mem] at this
    exact this u (by simpa using h)
theorem flatH_one (L : List He) : ∀ u ∈ flatH L, u.oneCell' = true := by
  intro u hu
  unfold flatH at hu
  rw [List.mem_flatMap] at hu
  obtain ⟨p, _, h⟩ := hu
  exact had_one p u h
theorem flatH_drop : ∀ (L : List He) (m : Nat), (flatH L).drop (m * 513) = flatH (L.drop m)
  | [], m => by simp [flatH]
  | e :: L, 0 => by simp
  | e :: L, m + 1 => by
    rw [flatH_cons, show (m + 1) * 513 = 513 + m * 513 by omega, ← List.drop_drop, List.drop_append_of_le_length (by rw [had_len]; exact Nat.le_refl _), show List.drop 513 (had e) = [] from List.drop_of_length_le (by rw [had_len]; exact Nat.le_refl _), List.nil_append, flatH_drop L m]
    rfl
theorem flatH_take (L : List He) (m : Nat) (hm : m ≤ L.length) : (flatH L).take (m * 513) = flatH (L.take m) := by
  have h : flatH L = flatH (L.take m) ++ flatH (L.drop m) := by rw [← flatH_append, List.take_append_drop]
  rw [h, List.take_append_of_le_length (by rw [flatH_len, List.length_take]; omega), List.take_of_length_le (by rw [flatH_len, List.length_take]; omega)]
theorem info78 : ∃ i z, Try.prog.info? 78 = some i ∧ i.zero = some z ∧ i.size = 513 ∧ i.bytes = 520 ∧ z.cells.size = 513 := by
  have h : ((Try.prog.info? 78).bind fun i => i.zero.map fun z => (i.size, i.bytes, z.cells.size)) = some (513, 520, 513) := by kernel_rfl
  obtain ⟨i, hi, h⟩ := Option.bind_eq_some_iff.1 h
  obtain ⟨z, hz, h⟩ := Option.map_eq_some_iff.1 h
  simp only [Prod.mk.injEq] at h
  exact ⟨i, z, hi, hz, h.1, h.2.1, h.2.2⟩
/-- A slice over such a row, as it reads. -/
def HA (W : World) (v : Value) (L : List He) : Prop :=
  ∃ A c, v = .slice A L.length c ∧ L.length ≤ c ∧ c ≤ maxLen ∧ (L = [] ∨ ∃ b off, A = some ⟨b, off, none⟩ ∧ (∃ cs fz, W.heap[b]? = some (.cells cs 78 fz)) ∧ ∀ i, i < L.length * 513 → W.cell? ⟨b, off + i, none⟩ = (flatH L)[i]?)
/-- A row of one's own. -/
abbrev OH (W : World) (v : Value) (L : List He) : Prop := W.ownsRow 0 78 513 v L.length (flatH L)
section
variable {W W' : World} {v : Value} {L : List He} {M : Nat → Prop}
theorem HA.fr (h : HA W v L) (hf : Fr M W W') (hm : ∀ k cs fz, W.heap[k]? = some (.cells cs 78 fz) → ¬ M k) : HA W' v L := by
  obtain ⟨A, c, e, h1, h2, h3⟩ := h
  refine ⟨A, c, e, h1, h2, ?_⟩
  rcases h3 with h3 | ⟨b, off, e2, ⟨cs, fz, h4⟩, h5⟩
  · exact .inl h3
  · have hb : W'.heap[b]? = W.heap[b]? := hf.block b (Array.getElem?_eq_some_iff.1 h4).1 (hm b cs fz h4)
    exact .inr ⟨b, off, e2, ⟨cs, fz, by rw [hb]; exact h4⟩, fun i hi => by rw [← h5 i hi]; simp only [World.cell?, hb]⟩
theorem HA.next (h : HA W v L) (hb : Below W.heap.size W W') : HA W' v L := h.fr (M := fun _ => False) (Fr.of_below hb) (fun _ _ _ _ x => x)
theorem HA.nil (W : World) : HA W (.slice none 0 0) [] := ⟨none, 0, rfl, Nat.le_refl _, Nat.zero_le _, .inl rfl⟩
theorem OH.ha (h : OH W v L) : HA W v L := by
  have h' := h
  rcases h.2 with ⟨rfl, h0⟩ | ⟨g, cap, cur, rfl, hb, hh, h1, h2, _⟩
  · have hL : L = [] := List.eq_nil_of_length_eq_zero h0
    subst hL
    exact HA.nil W
  · exact ⟨_, _, rfl, h1, h2, .inr ⟨g, 0, rfl, ⟨cur, _, hh⟩, fun i hi => by rw [Nat.zero_add]; exact h'.cellAt i (by omega)⟩⟩
theorem HA.shape (h : HA W v L) : ∃ A c, v = .slice A L.length c ∧ L.length ≤ c ∧ c ≤ maxLen := by
  obtain ⟨A, c, e, h1, h2, _⟩ := h
  exact ⟨A, c, e, h1, h2⟩
/-- An element's cells. -/
theorem HA.at {A : Option Addr} {n c : Nat} (h : HA W (.slice A n c) L) (i : Nat) (e : He) (he : L[i]? = some e) : ∃ b off, A = some ⟨b, off, none⟩ ∧ b < W.heap.size ∧ (∃ cs fz, W.heap[b]? = some (.cells cs 78 fz)) ∧ ∀ j, j < 513 → W.cell? ⟨b, off + (i * 513 + j), none⟩ = (had e)[j]? := by
  obtain ⟨A', c', e1, h1, h2, h3⟩ := h
  simp only [Value.slice.injEq] at e1
  obtain ⟨rfl, rfl, rfl⟩ := e1
  have hi := (List.getElem?_eq_some_iff.1 he).1
  rcases h3 with rfl | ⟨b, off, rfl, ⟨cs, fz, h4⟩, h5⟩
  · simp at he
  · exact ⟨b, off, rfl, (Array.getElem?_eq_some_iff.1 h4).1, ⟨cs, fz, h4⟩, fun j hj => by rw [h5 _ (by omega), flatH_at L i e he j hj]⟩
theorem oh_lt (h : OH W v L) : ∀ k, v.ownBlock = some k → k < W.heap.size := by
  intro k hk
  rcases h.2 with ⟨e, h0⟩ | ⟨g', cap, cur, e, hb, hh, h1⟩
  · rw [e] at hk; cases hk
  · rw [e] at hk
    cases hk
    exact (Array.getElem?_eq_some_iff.1 hh).1
theorem oh_fr (h : OH W v L) (hf : Fr M W W') (hm : ∀ k, v.ownBlock = some k → ¬ M k) : OH W' v L := by
  rcases h.2 with ⟨e, h0⟩ | ⟨g', cap, cur, e, hb, hh, h1⟩
  · exact ⟨h.1, .inl ⟨e, h0⟩⟩
  · refine ⟨h.1, .inr ⟨g', cap, cur, e, hb, ?_, h1⟩⟩
    rw [hf.block g' (Array.getElem?_eq_some_iff.1 hh).1 (hm g' (by rw [e]; rfl))]
    exact hh
theorem oh_next (h : OH W v L) (hb : Below W.heap.size W W') : OH W' v L := oh_fr h (M := fun _ => False) (Fr.of_below hb) (fun _ _ x => x)
end
/-- append onto a row of one's own. -/
theorem run_appH (w : World) (v : Value) (L : List He) (hown : OH w v L) (A : Option Addr) (c : Nat) (N : List He) (hN : HA w (.slice A N.length c) N) (hA : A = none → N = []) (hl : L.length + N.length ≤ 20000) :
    ∃ A' c' w', (Builtin.append_ #[56, 56] 56 #[v, .slice A N.length c]).run Try.prog w = .ok (.slice A' (L.length + N.length) c') w' ∧ OH w' (.slice A' (L.length + N.length) c') (L ++ N) ∧ Fr (fun k => v.ownBlock = some k) w w' ∧
      ((Value.slice A' (L.length + N.length) c').ownBlock = v.ownBlock ∨ (Value.slice A' (L.length + N.length) c').ownBlock = some w.heap.size) := by
  obtain ⟨i, z, e1, e2, e3, e4, e5⟩ := info78
  have shape : ∀ {w : World} {v : Value} {n : Nat} {xs : List Value}, w.ownsRow 0 78 513 v n xs → ∃ A c, v = .slice A n c := fun h => by
    rcases h.2 with ⟨rfl, rfl⟩ | ⟨g, cap, cur, rfl, _⟩
    · exact ⟨_, _, rfl⟩
    · exact ⟨_, _, rfl⟩
  cases A with
  | none =>
    obtain rfl := hA rfl
    obtain ⟨A', c', rfl⟩ := shape hown
    exact ⟨A', c', w, run_app_nil (P := Try.prog) w 0 56 56 78 i 513 Try.underlying56 e1 _ L.length (flatH L) hown c, by simpa using hown, Fr.refl _ _, .inl rfl⟩
  | some ad =>
    have hnews : ∀ j u, (flatH N)[j]? = some u → w.cell? (ad.add j) = some u := by
      intro j u hu
      have hj : j < N.length * 513 := by rw [← flatH_len]; exact (List.getElem?_eq_some_iff.1 hu).1
      obtain ⟨A', c', e, _, _, h3⟩ := hN
      rcases h3 with rfl | ⟨b, off, e2, _, h5⟩
      · simp at hj
      · simp only [Value.slice.injEq] at e
        rw [← e.1] at e2
        cases e2
        rw [Addr.add_mid, h5 j hj, hu]
    obtain ⟨v', w', h1, h2, h3, _, h5⟩ := run_append_own_at (P := Try.prog) w 0 56 56 78 i z 513 520 Try.underlying56 e1 e2 e3 e4 e5 (by omega) v L.length (flatH L) hown ad N.length c (flatH N) (flatH_len N) hnews (flatH_one N) (by unfold maxLen; omega) (by omega) (by omega)
    obtain ⟨A', c', rfl⟩ := shape h2
    refine ⟨A', c', w', h1, by unfold OH; rw [List.length_append, flatH_append]; exact h2, ⟨h3.os, h3.tape, h3.output, h3.size, fun k hk hn => h3.block k hk (fun e => hn e.symm)⟩, h5⟩
/-- append onto a new row without room. -/
theorem run_app0 (w : World) (b : Nat) (hb : RowAt w b 78 []) (A : Option Addr) (c : Nat) (N : List He) (hN : HA w (.slice A N.length c) N) (hA : A = none → N = []) (hl : N.length ≤ 20000) :
    ∃ v' w', (Builtin.append_ #[56, 56] 56 #[.slice (some ⟨b, 0, none⟩) 0 0, .slice A N.length c]).run Try.prog w = .ok v' w' ∧ OH w' v' N ∧ Below w.heap.size w w' ∧ (v'.ownBlock = some b ∨ v'.ownBlock = some w.heap.size) := by
  have hown : OH w (.slice (some ⟨b, 0, none⟩) ([] : List He).length 0) [] := ⟨rfl, .inr ⟨b, 0, #[], rfl, Nat.zero_le _, hb, by simp, by simp [maxLen], rfl, rfl⟩⟩
  obtain ⟨i, z, e1, e2, e3, e4, e5⟩ := info78
  by_cases h0 : N = []
  · subst h0
    refine ⟨.slice (some ⟨b, 0, none⟩) 0 0, w, ?_, hown, Below.refl _ _, .inl rfl⟩
    cases A with
    | none => exact run_app_nil (P := Try.prog) w 0 56 56 78 i 513 Try.underlying56 e1 _ 0 [] hown c
    | some ad => simp [Builtin.append_, run_underlying Try.underlying56, sizeOf, typeInfo, e1, Builtin.lenOf, Builtin.firstCells, loadCells, loadCellsFrom, storeCells]
  · obtain ⟨ad, rfl⟩ : ∃ ad, A = some ad := by
      cases A with
      | none => exact absurd (hA rfl) h0
      | some ad => exact ⟨ad, rfl⟩
    have hlen : 0 < N.length := List.length_pos_iff.2 h0
    have hnews : ∀ j u, (flatH N)[j]? = some u → w.cell? (ad.add j) = some u := by
      intro j u hu
      have hj : j < N.length * 513 := by rw [← flatH_len]; exact (List.getElem?_eq_some_iff.1 hu).1
      obtain ⟨A', c', e, _, _, h3⟩ := hN
      rcases h3 with h3 | ⟨b, off, e2, _, h5⟩
      · exact absurd h3 h0
      · simp only [Value.slice.injEq] at e
        rw [← e.1] at e2
        cases e2
        rw [Addr.add_mid, h5 j hj, hu]
    have hr := run_append_grow (P := Try.prog) w 56 56 78 i z Try.underlying56 e1 e2 ⟨b, 0, none⟩ 0 0 [] (by simp) (fun j u hu => by simp at hu) ad N.length c (flatH N) (by rw [e3]; exact flatH_len N) hnews (by omega) (by omega) (growslice_fits (by omega) (by rw [e4]; omega))
    simp only [Nat.zero_add] at hr
    have hge := grownCap_ge w N.length 0 78
    have hle := grownCap_le_maxLen w N.length 0 78 (by unfold maxLen; omega)
    refine ⟨_, _, hr, ⟨flatH_len N, .inr ⟨w.heap.size, grownCap w N.length 0 78, _, rfl, Nat.zero_le _, heap_alloc_new w.drew _, hge, hle, ?_, ?_⟩⟩, (Below.refl _ _).drew.alloc (Nat.le_refl _) _, .inr rfl⟩
    · simp only [Array.size_append, List.size_toArray, size_zeroCells, e5, flatH_len, List.length_nil]
      have := Nat.sub_add_cancel hge
      omega
    · simp only [Array.toList_append, List.nil_append]
      rw [← flatH_len]
      exact List.take_left
end Go.Proofs.Ytefjpljjdjecjaa
