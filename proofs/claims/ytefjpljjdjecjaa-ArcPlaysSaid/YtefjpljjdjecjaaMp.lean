/- Frames by sets of blocks; maps with integer keys, whatever their elements are. -/
import Derived.Test.YtefjpljjdjecjaaBa
import Derived.MapKept
import Derived.Maps.OwnSet
import Derived.Maps.OwnOps
namespace Go.Proofs.Ytefjpljjdjecjaa
open Go.RowKit

/-- Blocks outside M lie as they lay; there may be new ones. -/
structure Fr (M : Nat → Prop) (w w' : World) : Prop where
  os : w'.os = w.os
  tape : w'.tape = w.tape
  output : w'.output = w.output
  size : w.heap.size ≤ w'.heap.size
  block : ∀ k, k < w.heap.size → ¬ M k → w'.heap[k]? = w.heap[k]?
section
variable {M : Nat → Prop} {w w' w'' : World}
theorem Fr.refl (M : Nat → Prop) (w : World) : Fr M w w := ⟨rfl, rfl, rfl, Nat.le_refl _, fun _ _ _ => rfl⟩
theorem Fr.trans (h : Fr M w w') (k : Fr M w' w'') : Fr M w w'' :=
  ⟨k.os.trans h.os, k.tape.trans h.tape, k.output.trans h.output, Nat.le_trans h.size k.size, fun i hi hm => (k.block i (Nat.lt_of_lt_of_le hi h.size) hm).trans (h.block i hi hm)⟩
theorem Fr.mono {M' : Nat → Prop} (h : Fr M w w') (hm : ∀ k, k < w.heap.size → M k → M' k) : Fr M' w w' := ⟨h.os, h.tape, h.output, h.size, fun k hk hn => h.block k hk fun x => hn (hm k hk x)⟩
theorem Fr.below {B : Nat} (h : Fr M w w') (hB : B ≤ w.heap.size) (hm : ∀ k, M k → B ≤ k) : Below B w w' := ⟨h.os, h.tape, h.output, h.size, fun k hk => h.block k (by omega) fun x => by have := hm k x; omega⟩
theorem Fr.of_below (h : Below w.heap.size w w') : Fr M w w' := ⟨h.os, h.tape, h.output, h.size, fun k hk _ => h.block k hk⟩
theorem Fr.alloc (h : Fr M w w') (o : Obj) : Fr M w (w'.alloc o) := h.trans (Fr.of_below ((Below.refl _ _).alloc (Nat.le_refl _) o))
theorem Fr.drew (h : Fr M w w') : Fr M w w'.drew := ⟨h.os, h.tape, h.output, h.size, h.block⟩
theorem Fr.setCell (h : Fr M w w') {b i : Nat} (hb : M b) (v : Value) : Fr M w (w'.setCell ⟨b, i, none⟩ v) := by
  refine h.trans ⟨rfl, rfl, rfl, ?_, fun k _ hm => ?_⟩
  · simp [World.setCell]
  · by_cases e : k = b
    · subst e; exact absurd hb hm
    · exact Below.heap_setCell _ _ _ _ e
theorem RowAt.fr {b : Nat} {t : TypeId} {l : List Value} (h : RowAt w b t l) (hf : Fr M w w') (hm : ¬ M b) : RowAt w' b t l := by
  unfold RowAt at *
  rw [hf.block b (RowAt.lt h) hm]; exact h
theorem SliceAt.fr {a : Option Addr} {len : Nat} {l : List Value} (h : SliceAt w a len l) (hf : Fr M w w') (hm : ∀ x, a = some x → ¬ M x.block) : SliceAt w' a len l := by
  refine ⟨h.1, ?_⟩
  rcases h.2 with h2 | ⟨b, off, e, hl, hc⟩
  · exact .inl h2
  · refine .inr ⟨b, off, e, Nat.lt_of_lt_of_le hl hf.size, fun i hi => ?_⟩
    have hb : w'.heap[b]? = w.heap[b]? := hf.block b hl (hm _ e)
    rw [← hc i hi]
    simp only [World.cell?, hb]
end

def keyI (e : MapEntry) : Int := match e.key with | .int _ k => k | _ => 0
def getE (es : List MapEntry) (k : Int) : Option Value := (es.find? fun e => keyI e == k).map (·.val)
/-- A map with integer keys reads as f. -/
def MapAt (w : World) (b : Nat) (f : Int → Option Value) : Prop := ∃ es clock, w.heap[b]? = some (.map es clock) ∧ (∀ e ∈ es.toList, ∃ j, e.key = .int .i64 j) ∧ (es.toList.map keyI).Nodup ∧ ∀ k, getE es.toList k = f k
theorem MapAt.lt {w : World} {b : Nat} {f : Int → Option Value} (h : MapAt w b f) : b < w.heap.size := by
  obtain ⟨es, c, h1, _⟩ := h
  by_cases hh : b < w.heap.size
  · exact hh
  · rw [Array.getElem?_eq_none (by omega)] at h1; cases h1
theorem MapAt.fr {M : Nat → Prop} {w w' : World} {b : Nat} {f : Int → Option Value} (h : MapAt w b f) (hf : Fr M w w') (hm : ¬ M b) : MapAt w' b f := by
  obtain ⟨es, c, h1, h2⟩ := h
  exact ⟨es, c, by rw [hf.block b (MapAt.lt ⟨es, c, h1, h2⟩) hm]; exact h1, h2⟩
theorem MapAt.next {w w' : World} {b : Nat} {f : Int → Option Value} (h : MapAt w b f) (hb : Below w.heap.size w w') : MapAt w' b f := h.fr (M := fun _ => False) (Fr.of_below hb) (fun x => x)
theorem MapAt.ext {w : World} {b : Nat} {f g : Int → Option Value} (h : MapAt w b f) (hg : ∀ k, f k = g k) : MapAt w b g := by
  obtain ⟨es, c, h1, h2, h3, h4⟩ := h
  exact ⟨es, c, h1, h2, h3, fun k => (h4 k).trans (hg k)⟩
theorem MapAt.made (w : World) : MapAt (w.alloc (.map #[] 0)) w.heap.size fun _ => none := by
  refine ⟨#[], 0, ?_, by simp, by simp, fun k => rfl⟩
  show (w.heap.push _)[w.heap.size]? = _
  simp
section
variable {P : Program} {w : World} {b : Nat} {f : Int → Option Value} {T K E : TypeId}
theorem keyI_of {e : MapEntry} {j : Int} (h : e.key = .int .i64 j) : keyI e = j := by unfold keyI; rw [h]
theorem isKey_int (k : Int) : MapKept.IsKey (.int .i64) (.int .i64 k) := by simp [MapKept.IsKey]
theorem find_spec {es : List MapEntry} (hk : ∀ e ∈ es, ∃ j, e.key = .int .i64 j) (hn : (es.map keyI).Nodup) (k : Int) :
    (Instr.findNow (.int .i64) (.int .i64 k) es 0 = some none ∧ getE es k = none) ∨ ∃ j e, Instr.findNow (.int .i64) (.int .i64 k) es 0 = some (some (j, e.val)) ∧ es[j]? = some e ∧ e.key = .int .i64 k ∧ getE es k = some e.val := by
  rcases MapKept.findNow_spec (isKey_int k) es 0 (fun x hx => by obtain ⟨j, hj⟩ := hk x hx; rw [hj]; exact isKey_int j) with ⟨h1, h2⟩ | ⟨j, e, h1, h2, h3⟩
  · refine .inl ⟨h1, ?_⟩
    unfold getE
    rw [List.find?_eq_none.2, Option.map_none]
    intro e he hke
    obtain ⟨j, hj⟩ := hk e he
    rw [keyI_of hj] at hke
    exact h2 e he (by rw [hj]; simp at hke; rw [hke])
  · refine .inr ⟨j, e, by simpa using h1, h2, h3, ?_⟩
    unfold getE
    have hm : e ∈ es := List.mem_of_getElem? h2
    cases hf : es.find? (fun e => keyI e == k) with
    | none => exact absurd (List.find?_eq_none.1 hf e hm) (by rw [keyI_of h3]; simp)
    | some e' =>
      have h4 : keyI e' = k := by simpa using List.find?_some hf
      have h5 := List.mem_of_find?_eq_some hf
      obtain ⟨j', hj', he'⟩ := List.mem_iff_getElem.1 h5
      obtain ⟨hj, he⟩ := List.getElem?_eq_some_iff.1 h2
      have : j' = j := by
        refine (List.getElem_inj (h₀ := by simpa using hj') (h₁ := by simpa using hj) hn).1 ?_
        simp only [List.getElem_map, he', he, h4, keyI_of h3]
      subst this
      rw [he] at he'
      rw [he']; rfl
theorem run_look (h : MapAt w b f) (hT : P.underlying T = some (.map K E)) (hK : P.underlying K = some (.int .i64)) (z : Value) (hz : (zeroValue E).run P w = .ok z w) (k : Int) :
    (Instr.lookup T (.map (some b)) (.int .i64 k) false).run P w = .ok ((f k).getD z) w := by
  obtain ⟨es, c, h1, h2, h3, h4⟩ := h
  rcases find_spec h2 h3 k with ⟨g1, g2⟩ | ⟨j, e, g1, _, _, g2⟩
  · rw [← h4 k, g2]
    simp [Instr.lookup, run_underlying hT, MapKept.run_getObj_map h1, MapKept.run_checkKey hK (isKey_int k), MapKept.run_findKey hK g1, hz]
  · rw [← h4 k, g2]
    simp [Instr.lookup, run_underlying hT, MapKept.run_getObj_map h1, MapKept.run_checkKey hK (isKey_int k), MapKept.run_findKey hK g1]
theorem run_look_ok (h : MapAt w b f) (hT : P.underlying T = some (.map K E)) (hK : P.underlying K = some (.int .i64)) (z : Value) (hz : (zeroValue E).run P w = .ok z w) (k : Int) :
    (Instr.lookup T (.map (some b)) (.int .i64 k) true).run P w = .ok (.tuple #[(f k).getD z, .bool (f k).isSome]) w := by
  obtain ⟨es, c, h1, h2, h3, h4⟩ := h
  rcases find_spec h2 h3 k with ⟨g1, g2⟩ | ⟨j, e, g1, _, _, g2⟩
  · rw [← h4 k, g2]
    simp [Instr.lookup, run_underlying hT, MapKept.run_getObj_map h1, MapKept.run_checkKey hK (isKey_int k), MapKept.run_findKey hK g1, hz]
  · rw [← h4 k, g2]
    simp [Instr.lookup, run_underlying hT, MapKept.run_getObj_map h1, MapKept.run_checkKey hK (isKey_int k), MapKept.run_findKey hK g1]

theorem fr_put (w : World) (b : Nat) (o : Obj) : Fr (· = b) w { w with heap := w.heap.setIfInBounds b o } :=
  ⟨rfl, rfl, rfl, by simp, fun k _ hk => by simp [Ne.symm hk]⟩
theorem getE_push (es : List MapEntry) (e : MapEntry) (k : Int) (hn : getE es (keyI e) = none) : getE (es ++ [e]) k = if k = keyI e then some e.val else getE es k := by
  unfold getE at *
  rw [List.find?_append]
  split
  · rename_i hk
    subst hk
    cases hf : es.find? (fun x => keyI x == keyI e) with
    | none => simp
    | some x => rw [hf] at hn; cases hn
  · rename_i hk
    cases hf : es.find? (fun x => keyI x == k) with
    | none => simp [Ne.symm hk]
    | some x => simp
theorem getE_none_not_mem {es : List MapEntry} {k : Int} (h : getE es k = none) : k ∉ es.map keyI := by
  intro hm
  obtain ⟨e, he, hk⟩ := List.mem_map.1 hm
  unfold getE at h
  cases hf : es.find? (fun x => keyI x == k) with
  | none => exact absurd (List.find?_eq_none.1 hf e he) (by simp [hk])
  | some x => rw [hf] at h; cases h
theorem getE_iff {es : List MapEntry} (hn : (es.map keyI).Nodup) (k : Int) (v : Value) : getE es k = some v ↔ ∃ e ∈ es, keyI e = k ∧ e.val = v := by
  constructor
  · intro h
    unfold getE at h
    cases hf : es.find? (fun x => keyI x == k) with
    | none => rw [hf] at h; cases h
    | some x =>
      rw [hf] at h
      exact ⟨x, List.mem_of_find?_eq_some hf, by simpa using List.find?_some hf, by simpa using h⟩
  · rintro ⟨e, he, hk, hv⟩
    unfold getE
    cases hf : es.find? (fun x => keyI x == k) with
    | none => exact absurd (List.find?_eq_none.1 hf e he) (by simp [hk])
    | some x =>
      have h4 : keyI x = k := by simpa using List.find?_some hf
      obtain ⟨i, hi, e1⟩ := List.mem_iff_getElem.1 (List.mem_of_find?_eq_some hf)
      obtain ⟨j, hj, e2⟩ := List.mem_iff_getElem.1 he
      have : i = j := (List.getElem_inj (h₀ := by simpa using hi) (h₁ := by simpa using hj) hn).1 (by simp only [List.getElem_map, e1, e2, h4, hk])
      subst this
      rw [e1] at e2
      subst e2
      simp [hv]
theorem getE_congr {es es' : List MapEntry} (hn : (es.map keyI).Nodup) (hn' : (es'.map keyI).Nodup) (k k' : Int) (h : ∀ v, (∃ e ∈ es, keyI e = k ∧ e.val = v) ↔ ∃ e ∈ es', keyI e = k' ∧ e.val = v) : getE es k = getE es' k' := by
  apply Option.ext
  intro v
  rw [getE_iff hn, getE_iff hn']
  exact h v
theorem run_upd (h : MapAt w b f) (hT : P.underlying T = some (.map K E)) (hK : P.underlying K = some (.int .i64)) (k : Int) (v : Value) :
    ∃ w', (Instr.mapUpdate T (.map (some b)) (.int .i64 k) v).run P w = .ok () w' ∧ MapAt w' b (fun j => if j = k then some v else f j) ∧ Fr (· = b) w w' ∧ w'.heap.size = w.heap.size := by
  have hlt := h.lt
  obtain ⟨es, c, h1, h2, h3, h4⟩ := h
  rcases find_spec h2 h3 k with ⟨g1, g2⟩ | ⟨j, e, g1, g3, g4, g2⟩
  · refine ⟨_, by simp [Instr.mapUpdate, run_underlying hT, MapKept.run_getObj_map h1, MapKept.run_checkKey hK (isKey_int k), MapKept.run_findKey hK g1, MapKept.run_setObj_map _ h1]; rfl, ?_, fr_put _ _ _, by simp⟩
    refine ⟨es.push { key := .int .i64 k, val := v, born := c }, c + 1, by simp [hlt], ?_, ?_, ?_⟩
    · intro x hx
      simp at hx
      rcases hx with hx | rfl
      · exact h2 x (by simpa using hx)
      · exact ⟨k, rfl⟩
    · rw [Array.toList_push, List.map_append, List.nodup_append]
      refine ⟨h3, by simp, ?_⟩
      intro x hx y hy hxy
      simp [keyI] at hy
      subst hy hxy
      exact getE_none_not_mem g2 hx
    · intro j
      rw [Array.toList_push, getE_push _ _ _ (by simpa [keyI] using g2)]
      simp only [keyI]
      rw [h4]
      by_cases hjk : j = k <;> simp [hjk]
  · obtain ⟨hj, he⟩ := List.getElem?_eq_some_iff.1 g3
    have hj' : j < es.size := by simpa using hj
    have he' : es[j]? = some e := by rw [Array.getElem?_eq_getElem hj']; simpa using he
    have hkeep : (Instr.keyThatStays e.key (.int .i64 k)).run P w = .ok (.int .i64 k) w := by
      rw [g4]; simp [Instr.keyThatStays, Instr.sameBits]
    refine ⟨_, by simp [Instr.mapUpdate, run_underlying hT, MapKept.run_getObj_map h1, MapKept.run_checkKey hK (isKey_int k), MapKept.run_findKey hK g1, he', hkeep, MapKept.run_setObj_map _ h1]; rfl, ?_, fr_put _ _ _, by simp⟩
    have hlist : (es.modify j fun e => { e with key := .int .i64 k, val := v }).toList = es.toList.set j { e with key := .int .i64 k, val := v } := by
      apply List.ext_getElem
      · simp
      · intro i i1 i2
        simp only [Array.getElem_toList, Array.getElem_modify, List.getElem_set]
        by_cases hij : j = i
        · subst hij
          simp only [if_true]
          rw [show es[j] = e by simpa using he]
        · simp [hij]
    have hkeys : (es.toList.set j { e with key := .int .i64 k, val := v }).map keyI = es.toList.map keyI := by
      rw [List.map_set]
      apply List.ext_getElem
      · simp
      · intro i i1 i2
        rw [List.getElem_set]
        by_cases hij : j = i
        · subst hij
          rw [if_pos rfl]
          simp only [List.getElem_map]
          rw [he, keyI_of g4]; rfl
        · rw [if_neg hij]
    refine ⟨_, c, by simp [hlt]; rfl, ?_, ?_, ?_⟩
    · rw [hlist]
      intro x hx
      rcases List.mem_or_eq_of_mem_set hx with hx | rfl
      · exact h2 x hx
      · exact ⟨k, rfl⟩
    · rw [hlist, hkeys]; exact h3
    · intro i
      rw [hlist]
      have hn' : ((es.toList.set j { e with key := .int .i64 k, val := v }).map keyI).Nodup := by rw [hkeys]; exact h3
      dsimp only
      split
      · rename_i hik
        subst hik
        rw [getE_iff hn']
        exact ⟨_, List.mem_set hj _, rfl, rfl⟩
      · rename_i hik
        rw [← h4 i]
        refine getE_congr hn' h3 i i fun u => ⟨?_, ?_⟩
        · rintro ⟨x, hx, hxi, hxu⟩
          rcases List.mem_or_eq_of_mem_set hx with hx | rfl
          · exact ⟨x, hx, hxi, hxu⟩
          · exact absurd (by simpa [keyI] using hxi.symm) hik
        · rintro ⟨x, hx, hxi, hxu⟩
          refine ⟨x, ?_, hxi, hxu⟩
          obtain ⟨m, hm, hme⟩ := List.mem_iff_getElem.1 hx
          have hmj : j ≠ m := by
            rintro rfl
            rw [he] at hme
            subst hme
            rw [keyI_of g4] at hxi
            exact hik hxi.symm
          exact List.mem_iff_getElem.2 ⟨m, by simpa using hm, by rw [List.getElem_set, if_neg hmj]; exact hme⟩
theorem run_del (h : MapAt w b f) (hT : P.underlying T = some (.map K E)) (hK : P.underlying K = some (.int .i64)) (ty K' : TypeId) (k : Int) :
    ∃ w', (Builtin.delete_ #[T, K'] ty #[.map (some b), .int .i64 k]).run P w = .ok (.tuple #[]) w' ∧ MapAt w' b (fun j => if j = k then none else f j) ∧ Fr (· = b) w w' ∧ w'.heap.size = w.heap.size := by
  have hlt := h.lt
  obtain ⟨es, c, h1, h2, h3, h4⟩ := h
  rcases find_spec h2 h3 k with ⟨g1, g2⟩ | ⟨j, e, g1, g3, g4, g2⟩
  · refine ⟨_, by simp [Builtin.delete_, run_underlying hT, MapKept.run_getObj_map h1, MapKept.run_checkKey hK (isKey_int k), MapKept.run_findKey hK g1, MapKept.run_setObj_map _ h1]; rfl, ?_, fr_put _ _ _, by simp⟩
    refine ⟨es, c, by simp [hlt], h2, h3, fun j => ?_⟩
    dsimp only
    split
    · rename_i hjk; rw [hjk]; exact g2
    · exact h4 j
  · obtain ⟨hj, he⟩ := List.getElem?_eq_some_iff.1 g3
    have hj' : j < es.size := by simpa using hj
    refine ⟨_, by simp [Builtin.delete_, run_underlying hT, MapKept.run_getObj_map h1, MapKept.run_checkKey hK (isKey_int k), MapKept.run_findKey hK g1, MapKept.run_setObj_map _ h1]; rfl, ?_, fr_put _ _ _, by simp⟩
    have hlist : (es.eraseIdxIfInBounds j).toList = es.toList.eraseIdx j := by
      unfold Array.eraseIdxIfInBounds
      rw [dif_pos hj', Array.toList_eraseIdx]
    have hsub : (es.toList.eraseIdx j).Sublist es.toList := List.eraseIdx_sublist ..
    have hn' : ((es.toList.eraseIdx j).map keyI).Nodup := h3.sublist (hsub.map _)
    refine ⟨_, c, by simp [hlt]; rfl, ?_, ?_, ?_⟩
    · rw [hlist]; exact fun x hx => h2 x (hsub.subset hx)
    · rw [hlist]; exact hn'
    · intro i
      rw [hlist]
      have hmem : ∀ x, x ∈ es.toList.eraseIdx j ↔ x ∈ es.toList ∧ keyI x ≠ k := by
        intro x
        constructor
        · intro hx
          refine ⟨hsub.subset hx, fun hxk => ?_⟩
          obtain ⟨m, hm, hme⟩ := List.mem_iff_getElem.1 hx
          rw [List.getElem_eraseIdx] at hme
          have key : ∀ m', (hm' : m' < es.toList.length) → es.toList[m'] = x → m' = j := fun m' hm' hx' =>
            (List.getElem_inj (h₀ := by simpa using hm') (h₁ := by simpa using hj) h3).1 (by simp only [List.getElem_map, hx', he, hxk, keyI_of g4])
          split at hme
          · rename_i hlt2
            have := key m _ hme
            omega
          · rename_i hge
            have := key (m + 1) _ hme
            omega
        · rintro ⟨hx, hxk⟩
          obtain ⟨m, hm, hme⟩ := List.mem_iff_getElem.1 hx
          have hmj : m ≠ j := by
            rintro rfl
            rw [he] at hme
            subst hme
            exact hxk (keyI_of g4)
          refine List.mem_iff_getElem.2 ?_
          by_cases hlt2 : m < j
          · exact ⟨m, by rw [List.length_eraseIdx_of_lt hj]; omega, by rw [List.getElem_eraseIdx, dif_pos hlt2]; exact hme⟩
          · exact ⟨m - 1, by rw [List.length_eraseIdx_of_lt hj]; omega, by
              rw [List.getElem_eraseIdx, dif_neg (by omega)]
              have : m - 1 + 1 = m := by omega
              simp only [this]; exact hme⟩
      dsimp only
      split
      · rename_i hik
        subst hik
        cases hg : getE (es.toList.eraseIdx j) i with
        | none => rfl
        | some u =>
          obtain ⟨x, hx, hxi, _⟩ := (getE_iff hn' i u).1 hg
          exact absurd hxi ((hmem x).1 hx).2
      · rename_i hik
        rw [← h4 i]
        refine getE_congr hn' h3 i i fun u => ⟨?_, ?_⟩
        · rintro ⟨x, hx, hxi, hxu⟩
          exact ⟨x, ((hmem x).1 hx).1, hxi, hxu⟩
        · rintro ⟨x, hx, hxi, hxu⟩
          exact ⟨x, (hmem x).2 ⟨hx, by rw [hxi]; exact hik⟩, hxi, hxu⟩
end

/-! ### Operations on maps, by their runs' equations -/
section
variable {P : Program} {w w' : World} {ops : Array Oper} {rest : List Oper} {o : Oper} {a : Act} {Q : Exit → Act → World → Prop} {K : Act → World → Prop}
theorem wp_look {t : TypeId} {m x : Operand} {ok : Bool} {u v : Value} {r : Value} (ho : o.op = .lookup t m x ok) (hm : a.eval m = u) (hx : a.eval x = v) (hr : (Instr.lookup t u v ok).run P w = .ok r w') (h : K (a.put o.dst r) w') : o.wp P a w K Q := by
  unfold Oper.wp
  simp only [execOp, ho, hm, hx, Sem.run_bind, hr, Result.andThen_ok, Sem.run_pure]
  exact h
theorem wp_upd {t : TypeId} {m x y : Operand} {u v z : Value} (ho : o.op = .mapUpdate t m x y) (hm : a.eval m = u) (hx : a.eval x = v) (hy : a.eval y = z) (hr : (Instr.mapUpdate t u v z).run P w = .ok () w') (h : K (a.put o.dst undef) w') : o.wp P a w K Q := by
  unfold Oper.wp
  simp only [execOp, ho, hm, hx, hy, Sem.run_bind, hr, Result.andThen_ok, Sem.run_pure]
  exact h
theorem wp_del {t k ty : TypeId} {m x : Operand} {u v : Value} (ho : o.op = .call { callee := .builtin .delete, args := #[m, x], argTypes := #[t, k] }) (hty : o.type = ty) (hm : a.eval m = u) (hx : a.eval x = v) (hr : (Builtin.delete_ #[t, k] ty #[u, v]).run P w = .ok (.tuple #[]) w') (h : K (a.put o.dst (.tuple #[])) w') : o.wp P a w K Q := by
  unfold Oper.wp execOp
  subst hty
  simp only [ho, resolve, invoke, builtin, Sem.run_bind, Sem.run_pure, Result.andThen_ok, List.map_toArray, List.map_cons, List.map_nil, hm, hx, hr]
  exact h
theorem wpList_look {t : TypeId} {m x : Operand} {ok : Bool} {u v : Value} {r : Value} (hw : Region.wanted o (yielded ops a.tmps) = true) (ho : o.op = .lookup t m x ok) (hm : a.eval m = u) (hx : a.eval x = v) (hr : (Instr.lookup t u v ok).run P w = .ok r w') (h : wpList P ops Q rest (a.put o.dst r) w') : wpList P ops Q (o :: rest) a w :=
  BigFrame.wpList_want hw fun _ hK => wp_look ho hm hx hr (hK _ _ h)
theorem wpList_upd {t : TypeId} {m x y : Operand} {u v z : Value} (hw : Region.wanted o (yielded ops a.tmps) = true) (ho : o.op = .mapUpdate t m x y) (hm : a.eval m = u) (hx : a.eval x = v) (hy : a.eval y = z) (hr : (Instr.mapUpdate t u v z).run P w = .ok () w') (h : wpList P ops Q rest (a.put o.dst undef) w') : wpList P ops Q (o :: rest) a w :=
  BigFrame.wpList_want hw fun _ hK => wp_upd ho hm hx hy hr (hK _ _ h)
theorem wpList_del {t k ty : TypeId} {m x : Operand} {u v : Value} (hw : Region.wanted o (yielded ops a.tmps) = true) (ho : o.op = .call { callee := .builtin .delete, args := #[m, x], argTypes := #[t, k] }) (hty : o.type = ty) (hm : a.eval m = u) (hx : a.eval x = v) (hr : (Builtin.delete_ #[t, k] ty #[u, v]).run P w = .ok (.tuple #[]) w') (h : wpList P ops Q rest (a.put o.dst (.tuple #[])) w') : wpList P ops Q (o :: rest) a w :=
  BigFrame.wpList_want hw fun _ hK => wp_del ho hty hm hx hr (hK _ _ h)
end
end Go.Proofs.Ytefjpljjdjecjaa
