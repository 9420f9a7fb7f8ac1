/- A buffer in memory: rows of writes by their objects. -/
import Derived.Test.YtkcebbidmlnmmaaDoorMp
import Derived.Test.YtkcebbidmlnmmaaDoorAp
import Derived.Test.YtkcebbidmlnmmaaDoorWa
import Derived.IntWalk
import Derived.Deep.RegionLaw
import Derived.Deep.DrawnRows
import Derived.Deep.RegionHeld3
namespace Go.Proofs.YtkcebbidmlnmmaaDoor
open Go.RowKit
abbrev Pt := Nat × ByteArray
abbrev Wr := Int × Pt
def flatP (L : List Pt) : List Value := L.flatMap fun p => [.int .i64 (p.1 : Int), .string p.2]
theorem flatP_cons (p : Pt) (L : List Pt) : flatP (p :: L) = .int .i64 (p.1 : Int) :: .string p.2 :: flatP L := rfl
theorem flatP_append (L L' : List Pt) : flatP (L ++ L') = flatP L ++ flatP L' := by simp [flatP]
theorem flatP_len : ∀ L : List Pt, (flatP L).length = L.length * 2
  | [] => rfl
  | p :: L => by rw [flatP_cons]; simp only [List.length_cons, flatP_len L]; omega
theorem flatP_at : ∀ (L : List Pt) (i : Nat) (p : Pt), L[i]? = some p → (flatP L)[i * 2]? = some (.int .i64 (p.1 : Int)) ∧ (flatP L)[i * 2 + 1]? = some (.string p.2)
  | [], _, _, h => by simp at h
  | q :: L, 0, p, h => by
    obtain rfl : q = p := by simpa using h
    exact ⟨rfl, rfl⟩
  | q :: L, i + 1, p, h => by
    rw [flatP_cons, show (i + 1) * 2 = i * 2 + 1 + 1 by omega]
    exact flatP_at L i p (by simpa using h)
theorem flatP_one (L : List Pt) : ∀ u ∈ flatP L, u.oneCell' = true := by
  intro u hu
  unfold flatP at hu
  rw [List.mem_flatMap] at hu
  obtain ⟨p, _, h⟩ := hu
  rcases List.mem_cons.1 h with rfl | h
  · rfl
  · rw [List.mem_singleton.1 h]; rfl
set_option maxRecDepth 100000 in
theorem info58 : ∃ i z, Tryd.prog.info? 58 = some i ∧ i.zero = some z ∧ i.size = 2 ∧ i.bytes = 24 ∧ z.cells.size = 2 := ⟨_, _, rfl, rfl, rfl, rfl, rfl⟩
theorem ownP_shape {w : World} {e : TypeId} {s : Nat} {v : Value} {n : Nat} {xs : List Value} (h : w.ownsRow 0 e s v n xs) : ∃ A c, v = .slice A n c := by
  rcases h.2 with ⟨rfl, rfl⟩ | ⟨g, cap, cur, rfl, _⟩
  · exact ⟨_, _, rfl⟩
  · exact ⟨_, _, rfl⟩
/-- append of writes onto a row of their own. -/
theorem run_appP (w : World) (v : Value) (L : List Pt) (hown : w.ownsRow 0 58 2 v L.length (flatP L)) (ad : Addr) (c : Nat) (N : List Pt) (hnews : ∀ j u, (flatP N)[j]? = some u → w.cell? (ad.add j) = some u) (hl : L.length + N.length ≤ 200000) :
    ∃ A' c' w', (Builtin.append_ #[49, 49] 49 #[v, .slice (some ad) N.length c]).run Tryd.prog w = .ok (.slice A' (L.length + N.length) c') w' ∧ w'.ownsRow 0 58 2 (.slice A' (L.length + N.length) c') (L ++ N).length (flatP (L ++ N)) ∧ Fr (fun k => v.ownBlock = some k) w w' ∧
      ((Value.slice A' (L.length + N.length) c').ownBlock = v.ownBlock ∨ (Value.slice A' (L.length + N.length) c').ownBlock = some w.heap.size) := by
  obtain ⟨i, z, e1, e2, e3, e4, e5⟩ := info58
  obtain ⟨v', w', h1, h2, h3, _, h5⟩ := run_append_own_at (P := Tryd.prog) w 0 49 49 58 i z 2 24 Tryd.underlying49 e1 e2 e3 e4 e5 (by omega) v L.length (flatP L) hown ad N.length c (flatP N) (flatP_len N) hnews (flatP_one N) (by unfold maxLen; omega) (by omega) (by omega)
  obtain ⟨A', c', rfl⟩ := ownP_shape h2
  refine ⟨A', c', w', h1, by rw [List.length_append, flatP_append]; exact h2, ⟨h3.os, h3.tape, h3.output, h3.size, fun k hk hn => h3.block k hk (fun e => hn e.symm)⟩, h5⟩
/-- A row of an object's writes, not empty, in block g. -/
structure Rw (W : World) (v : Value) (P : List Pt) (g : Nat) : Prop where
  own : W.ownsRow 0 58 2 v P.length (flatP P)
  blk : v.ownBlock = some g
section
variable {W W' : World} {v : Value} {P : List Pt} {g : Nat} {M : Nat → Prop}
theorem Rw.shape (h : Rw W v P g) : ∃ cap, v = .slice (some ⟨g, 0, none⟩) P.length cap ∧ P.length ≤ cap ∧ cap ≤ maxLen ∧ ∃ cs x, W.heap[g]? = some (.cells cs 58 x) := by
  rcases h.own.2 with ⟨rfl, _⟩ | ⟨g', cap, cur, rfl, hb, hh, h1, h2, _⟩
  · cases h.blk
  · have := h.blk
    cases this
    exact ⟨cap, rfl, h1, h2, _, _, hh⟩
theorem Rw.lt (h : Rw W v P g) : g < W.heap.size := by
  obtain ⟨_, _, _, _, cs, x, h5⟩ := h.shape
  exact (Array.getElem?_eq_some_iff.1 h5).1
theorem Rw.fr (h : Rw W v P g) (hf : Fr M W W') (hm : ¬ M g) : Rw W' v P g := by
  refine ⟨?_, h.blk⟩
  rcases h.own.2 with ⟨e, h0⟩ | ⟨g', cap, cur, e, hb, hh, h1⟩
  · exact ⟨h.own.1, .inl ⟨e, h0⟩⟩
  · refine ⟨h.own.1, .inr ⟨g', cap, cur, e, hb, ?_, h1⟩⟩
    have : g' = g := by have := h.blk; rw [e] at this; cases this; rfl
    rw [hf.block g' (Array.getElem?_eq_some_iff.1 hh).1 (by rw [this]; exact hm)]
    exact hh
theorem Rw.ne_row (h : Rw W v P g) {q : Nat} {t : TypeId} {l : List Value} (hr : RowAt W q t l) (ht : t ≠ 58) : g ≠ q := by
  intro e
  subst e
  obtain ⟨_, _, _, _, cs, x, h5⟩ := h.shape
  unfold RowAt at hr
  rw [hr] at h5
  simp at h5
  exact ht h5.2.1
theorem Rw.ne_map (h : Rw W v P g) {b : Nat} {F : Int → Option Value} (hm : MapAt W b F) : g ≠ b := by
  intro e
  subst e
  obtain ⟨_, _, _, _, cs, x, h5⟩ := h.shape
  obtain ⟨es, c, h1, _⟩ := hm
  rw [h1] at h5
  simp at h5
theorem Rw.at (h : Rw W v P g) (i : Nat) (p : Pt) (hp : P[i]? = some p) : W.cell? ⟨g, i * 2, none⟩ = some (.int .i64 (p.1 : Int)) ∧ W.cell? ⟨g, i * 2 + 1, none⟩ = some (.string p.2) := by
  obtain ⟨cap, rfl, h1, _⟩ := h.shape
  have hi := (List.getElem?_eq_some_iff.1 hp).1
  obtain ⟨e1, e2⟩ := flatP_at P i p hp
  exact ⟨by rw [h.own.cellAt (i * 2) (by omega), e1], by rw [h.own.cellAt (i * 2 + 1) (by omega), e2]⟩
end
/-- Rows by their objects: a map in block b. -/
structure Mr (W : World) (b : Nat) (R : Int → List Pt) (G : Int → Nat) (S : Nat → Prop) : Prop where
  map : ∃ F, MapAt W b F ∧ ∀ k, (R k = [] ∧ F k = none) ∨ ∃ v, R k ≠ [] ∧ F k = some v ∧ Rw W v (R k) (G k)
  inj : ∀ k k', R k ≠ [] → R k' ≠ [] → G k = G k' → k = k'
  sb : S b
  sg : ∀ k, R k ≠ [] → S (G k)
section
variable {W W' : World} {b : Nat} {R R' : Int → List Pt} {G : Int → Nat} {S S' M : Nat → Prop}
theorem Mr.mono (h : Mr W b R G S) (hs : ∀ i, i < W.heap.size → S i → S' i) : Mr W b R G S' := by
  obtain ⟨F, hF, hk⟩ := h.map
  refine ⟨h.map, h.inj, hs _ hF.lt h.sb, fun k hk' => hs _ ?_ (h.sg k hk')⟩
  rcases hk k with ⟨e, _⟩ | ⟨v, _, _, hr⟩
  · exact absurd e hk'
  · exact hr.lt
theorem Mr.frg (h : Mr W b R G S) (hf : Fr M W W') (hb : ¬ M b) (hm : ∀ k, R k ≠ [] → ¬ M (G k)) : Mr W' b R G S := by
  obtain ⟨F, hF, hk⟩ := h.map
  refine ⟨⟨F, hF.fr hf hb, fun k => ?_⟩, h.inj, h.sb, h.sg⟩
  rcases hk k with e | ⟨v, h1, h2, h3⟩
  · exact .inl e
  · exact .inr ⟨v, h1, h2, h3.fr hf (hm k h1)⟩
theorem Mr.blt (h : Mr W b R G S) : b < W.heap.size := by
  obtain ⟨F, hF, _⟩ := h.map
  exact hF.lt
theorem Mr.glt (h : Mr W b R G S) {k : Int} (hk : R k ≠ []) : G k < W.heap.size := by
  obtain ⟨F, hF, hr⟩ := h.map
  rcases hr k with ⟨e, _⟩ | ⟨v, h1, h2, h3⟩
  · exact absurd e hk
  · exact h3.lt
theorem Mr.fr (h : Mr W b R G S) (hf : Fr M W W') (hm : ∀ i, i < W.heap.size → M i → ¬ S i) : Mr W' b R G S :=
  h.frg hf (fun x => hm b h.blt x h.sb) (fun k hk x => hm _ (h.glt hk) x (h.sg k hk))
/-- No row of the map's is a block of another type. -/
theorem Mr.ne_row (h : Mr W b R G S) {q : Nat} {t : TypeId} {l : List Value} (hr : RowAt W q t l) (ht : t ≠ 58) : b ≠ q ∧ ∀ k, R k ≠ [] → G k ≠ q := by
  obtain ⟨F, hF, hk⟩ := h.map
  refine ⟨fun e => ?_, fun k hk' => ?_⟩
  · subst e
    obtain ⟨es, c, h1, _⟩ := hF
    unfold RowAt at hr
    rw [h1] at hr
    cases hr
  · rcases hk k with ⟨e, _⟩ | ⟨v, h1, h2, h3⟩
    · exact absurd e hk'
    · exact h3.ne_row hr ht
theorem Mr.cell (h : Mr W b R G S) {q : Nat} {t : TypeId} {l : List Value} (hr : RowAt W q t l) (ht : t ≠ 58) (i : Nat) (u : Value) : Mr (W.setCell ⟨q, i, none⟩ u) b R G S := by
  obtain ⟨h1, h2⟩ := h.ne_row hr ht
  exact h.frg ((Fr.refl (· = q) W).setCell (b := q) rfl u) h1 h2
theorem Mr.next (h : Mr W b R G S) (hb : Below W.heap.size W W') : Mr W' b R G S := h.fr (M := fun _ => False) (Fr.of_below hb) (fun _ _ x => x.elim)
theorem Mr.ext (h : Mr W b R G S) (e : ∀ k, R' k = R k) : Mr W b R' G S := by
  have : R' = R := funext e
  rw [this]; exact h
theorem Mr.made (w : World) (S : Nat → Prop) (hs : S w.heap.size) : Mr (w.alloc (.map #[] 0)) w.heap.size (fun _ => []) (fun _ => 0) S :=
  ⟨⟨_, MapAt.made w, fun _ => .inl ⟨rfl, rfl⟩⟩, fun _ _ h => absurd rfl h, hs, fun _ h => absurd rfl h⟩
theorem zero49 (w : World) : (zeroValue 49).run Tryd.prog w = .ok (.slice none 0 0) w := by kernel_rfl
/-- What a lookup tells of an object's row. -/
def RowV (W : World) (P : List Pt) (g : Nat) (v : Value) : Prop := (P = [] ∧ v = .slice none 0 0) ∨ (P ≠ [] ∧ Rw W v P g)
theorem Mr.look (h : Mr W b R G S) (k : Int) : ∃ v, (∀ W', Below W.heap.size W W' → (Instr.lookup 59 (.map (some b)) (.int .i64 k) false).run Tryd.prog W' = .ok v W' ∧ (Instr.lookup 59 (.map (some b)) (.int .i64 k) true).run Tryd.prog W' = .ok (.tuple #[v, .bool (!(R k).isEmpty)]) W') ∧ RowV W (R k) (G k) v := by
  obtain ⟨F, hF, hk⟩ := h.map
  refine ⟨_, fun W' hb => ⟨run_look (hF.next hb) Tryd.underlying59 Tryd.underlying3 _ (zero49 W') k, ?_⟩, ?_⟩
  · rw [run_look_ok (hF.next hb) Tryd.underlying59 Tryd.underlying3 _ (zero49 W') k]
    rcases hk k with ⟨e, e2⟩ | ⟨v, h1, h2, h3⟩
    · rw [e, e2]; rfl
    · rw [h2]
      cases e : R k with
      | nil => exact absurd e h1
      | cons _ _ => rfl
  · rcases hk k with ⟨e, e2⟩ | ⟨v, h1, h2, h3⟩
    · exact .inl ⟨e, by rw [e2]; rfl⟩
    · exact .inr ⟨h1, by rw [h2]; exact h3⟩
theorem RowV.shape {P : List Pt} {g : Nat} {v : Value} (h : RowV W P g v) : ∃ A c, v = .slice A P.length c ∧ ∀ (i : Nat) (p : Pt), P[i]? = some p → A = some ⟨g, 0, none⟩ ∧ g < W.heap.size ∧ (i : Int) < (c : Int) ∧ W.cell? ⟨g, i * 2, none⟩ = some (.int .i64 (p.1 : Int)) ∧ W.cell? ⟨g, i * 2 + 1, none⟩ = some (.string p.2) := by
  rcases h with ⟨rfl, rfl⟩ | ⟨_, h⟩
  · exact ⟨_, _, rfl, fun i p hp => by simp at hp⟩
  · obtain ⟨cap, rfl, h1, _⟩ := h.shape
    refine ⟨_, _, rfl, fun i p hp => ?_⟩
    have hi := (List.getElem?_eq_some_iff.1 hp).1
    obtain ⟨a1, a2⟩ := h.at i p hp
    exact ⟨rfl, h.lt, by omega, a1, a2⟩
theorem RowV.own {P : List Pt} {g : Nat} {v : Value} (h : RowV W P g v) : W.ownsRow 0 58 2 v P.length (flatP P) := by
  rcases h with ⟨rfl, rfl⟩ | ⟨_, h⟩
  · exact ⟨rfl, .inl ⟨rfl, rfl⟩⟩
  · exact h.own
theorem RowV.blk {P : List Pt} {g : Nat} {v : Value} (h : RowV W P g v) : ∀ k, v.ownBlock = some k → P ≠ [] ∧ k = g := by
  rcases h with ⟨rfl, rfl⟩ | ⟨h0, h⟩
  · intro k hk; cases hk
  · intro k hk; rw [h.blk] at hk; cases hk; exact ⟨h0, rfl⟩
/-- The rows are updated: at k stands P in block g, which is no other object's. -/
theorem Mr.put {w w2 : World} (h : Mr w b R G S) (k : Int) {v : Value} {P : List Pt} {g : Nat} (hP : P ≠ []) (hv : Rw w2 v P g) (hf : Fr M w w2) (hm : ∀ i, M i → R k ≠ [] ∧ i = G k) (hg : (R k ≠ [] ∧ g = G k) ∨ w.heap.size ≤ g) :
    ∃ w', (Instr.mapUpdate 59 (.map (some b)) (.int .i64 k) v).run Tryd.prog w2 = .ok () w' ∧ Mr w' b (fun j => if j = k then P else R j) (fun j => if j = k then g else G j) (fun i => S i ∨ w.heap.size ≤ i) ∧ Fr S w w' ∧ Fr (· = b) w2 w' := by
  obtain ⟨F, hF, hk⟩ := h.map
  have hb : ¬ M b := fun x => by
    obtain ⟨h1, e⟩ := hm b x
    rcases hk k with ⟨e', _⟩ | ⟨u, _, _, hr⟩
    · exact h1 e'
    · exact hr.ne_map hF e.symm
  have hF2 := hF.fr hf hb
  obtain ⟨w', r1, r2, r3, _⟩ := run_upd hF2 Tryd.underlying59 Tryd.underlying3 k v
  have hgb : g ≠ b := hv.ne_map hF2
  refine ⟨w', r1, ⟨⟨_, r2, fun j => ?_⟩, ?_, .inl h.sb, ?_⟩, ?_, r3⟩
  · by_cases e : j = k
    · simp only [if_pos e]
      exact .inr ⟨v, hP, rfl, hv.fr r3 hgb⟩
    · simp only [if_neg e]
      rcases hk j with e' | ⟨u, h1, h2, h3⟩
      · exact .inl e'
      · refine .inr ⟨u, h1, h2, (h3.fr hf (fun x => ?_)).fr r3 (h3.ne_map hF)⟩
        obtain ⟨a1, a2⟩ := hm _ x
        exact e (h.inj j k h1 a1 a2)
  · intro i j hi hj e
    by_cases e1 : i = k
    · by_cases e2 : j = k
      · rw [e1, e2]
      · simp only [if_pos e1, if_neg e2] at hj e
        rcases hg with ⟨g1, g2⟩ | g1
        · rw [g2] at e
          exact absurd (h.inj k j g1 hj e).symm e2
        · rcases hk j with ⟨e', _⟩ | ⟨u, _, _, hr⟩
          · exact absurd e' hj
          · have := hr.lt; omega
    · by_cases e2 : j = k
      · simp only [if_neg e1, if_pos e2] at hi e
        rcases hg with ⟨g1, g2⟩ | g1
        · rw [g2] at e
          exact absurd (h.inj i k hi g1 e) e1
        · rcases hk i with ⟨e', _⟩ | ⟨u, _, _, hr⟩
          · exact absurd e' hi
          · have := hr.lt; omega
      · simp only [if_neg e1, if_neg e2] at hi hj e
        exact h.inj i j hi hj e
  · intro j hj
    by_cases e : j = k
    · simp only [if_pos e]
      rcases hg with ⟨g1, g2⟩ | g1
      · rw [g2]; exact .inl (h.sg k g1)
      · exact .inr g1
    · simp only [if_neg e] at hj ⊢
      exact .inl (h.sg j hj)
  · exact (hf.mono (fun i _ x => by obtain ⟨a1, a2⟩ := hm i x; rw [a2]; exact h.sg k a1)).trans (r3.mono (fun i _ e => by rw [e]; exact h.sb))
theorem Mr.del {w : World} (h : Mr w b R G S) (k : Int) (ty K' : TypeId) :
    ∃ w', (Builtin.delete_ #[59, K'] ty #[.map (some b), .int .i64 k]).run Tryd.prog w = .ok (.tuple #[]) w' ∧ Mr w' b (fun j => if j = k then [] else R j) G S ∧ Fr (· = b) w w' := by
  obtain ⟨F, hF, hk⟩ := h.map
  obtain ⟨w', r1, r2, r3, _⟩ := run_del hF Tryd.underlying59 Tryd.underlying3 ty K' k
  refine ⟨w', r1, ⟨⟨_, r2, fun j => ?_⟩, ?_, h.sb, ?_⟩, r3⟩
  · by_cases e : j = k
    · left
      simp [e]
    · simp only [if_neg e]
      rcases hk j with e' | ⟨u, h1, h2, h3⟩
      · exact .inl e'
      · exact .inr ⟨u, h1, h2, h3.fr r3 (h3.ne_map hF)⟩
  · intro i j hi hj e
    by_cases e1 : i = k
    · simp only [if_pos e1] at hi
      exact absurd rfl hi
    · by_cases e2 : j = k
      · simp only [if_pos e2] at hj
        exact absurd rfl hj
      · simp only [if_neg e1] at hi
        simp only [if_neg e2] at hj
        exact h.inj i j hi hj e
  · intro j hj
    by_cases e : j = k
    · simp only [if_pos e] at hj
      exact absurd rfl hj
    · simp only [if_neg e] at hj
      exact h.sg j hj
theorem RowV.next {P : List Pt} {g : Nat} {v : Value} (h : RowV W P g v) (hb : Below W.heap.size W W') : RowV W' P g v := by
  rcases h with h | ⟨h0, h⟩
  · exact .inl h
  · exact .inr ⟨h0, h.fr (M := fun _ => False) (Fr.of_below hb) (fun x => x)⟩
/-- A write more, behind the object's others. -/
theorem Mr.push {w : World} (h : Mr w b R G S) (k : Int) (p : Pt) (hl : (R k).length ≤ 100000) :
    ∃ A c A' c' w1 w2 G', (∀ W', Below w.heap.size w W' → (Instr.lookup 59 (.map (some b)) (.int .i64 k) false).run Tryd.prog W' = .ok (.slice A (R k).length c) W') ∧
      (Builtin.append_ #[49, 49] 49 #[.slice A (R k).length c, .slice (some ⟨w.heap.size, 0, none⟩) 1 1]).run Tryd.prog (w.alloc (.cells #[.int .i64 (p.1 : Int), .string p.2] 58)) = .ok (.slice A' ((R k).length + 1) c') w1 ∧
      (Instr.mapUpdate 59 (.map (some b)) (.int .i64 k) (.slice A' ((R k).length + 1) c')).run Tryd.prog w1 = .ok () w2 ∧
      Mr w2 b (fun j => if j = k then R k ++ [p] else R j) G' (fun i => S i ∨ w.heap.size ≤ i) ∧ Fr S w w2 ∧ ∀ q t l, RowAt w q t l → t ≠ 58 → RowAt w1 q t l ∧ RowAt w2 q t l := by
  obtain ⟨v, hlk, hv⟩ := h.look k
  obtain ⟨A, c, rfl, _⟩ := hv.shape
  have hal : Below w.heap.size w (w.alloc (.cells #[.int .i64 (p.1 : Int), .string p.2] 58)) := (Below.refl _ _).alloc (Nat.le_refl _) _
  have hz : (w.alloc (.cells #[.int .i64 (p.1 : Int), .string p.2] 58)).heap.size = w.heap.size + 1 := by simp
  have hro := RowAt.new w 58 [.int .i64 (p.1 : Int), .string p.2]
  obtain ⟨A', c', w1, r1, o1, f1, k1⟩ := run_appP (w.alloc (.cells #[.int .i64 (p.1 : Int), .string p.2] 58)) _ (R k) (hv.next hal).own ⟨w.heap.size, 0, none⟩ 1 [p] (fun j u hu => by
    have e1 : (⟨w.heap.size, 0, none⟩ : Addr).add j = ⟨w.heap.size, j, none⟩ := by rw [Addr.add_mid, Nat.zero_add]
    rw [e1, hro.cell j]
    exact hu) (by simp; omega)
  simp only [List.length_singleton] at r1 o1 k1
  obtain ⟨g, hg⟩ : ∃ g, (Value.slice A' ((R k).length + 1) c').ownBlock = some g := by
    rcases o1.2 with ⟨e, h0⟩ | ⟨gg, cap, cur, e, _⟩
    · simp at h0
    · rw [e]; exact ⟨gg, rfl⟩
  have hgn : (R k ≠ [] ∧ g = G k) ∨ w.heap.size ≤ g := by
    rw [hg] at k1
    rcases k1 with e | e
    · exact .inl (hv.blk g e.symm)
    · rw [hz] at e
      cases e
      exact .inr (by omega)
  have hf : Fr (fun i => R k ≠ [] ∧ i = G k) w w1 := (Fr.of_below hal).trans (f1.mono (fun i _ e => hv.blk i e))
  obtain ⟨w2, r2, m2, f2, f2'⟩ := h.put k (v := .slice A' ((R k).length + 1) c') (P := R k ++ [p]) (g := g) (by simp) ⟨by rw [List.length_append] at o1 ⊢; exact o1, hg⟩ hf (fun _ x => x) hgn
  refine ⟨A, c, A', c', w1, w2, _, fun W' hb => (hlk W' hb).1, r1, r2, m2, f2, fun q t l hr ht => ?_⟩
  obtain ⟨n1, n2⟩ := h.ne_row hr ht
  have hr1 := hr.fr hf (fun x => n2 k x.1 x.2.symm)
  exact ⟨hr1, hr1.fr f2' (fun e => n1 e.symm)⟩
end
end Go.Proofs.YtkcebbidmlnmmaaDoor
