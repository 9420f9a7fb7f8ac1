/- A row of bytes that a conversion made: read, written, grown, told as a text. -/
import Derived.Test.YtkcebbidmlnmmaaDoorXa
import Derived.Laws.IdiomStrings
import Derived.Laws.AppendOwn
namespace Go.Proofs.YtkcebbidmlnmmaaDoor
open Go.RowKit
/-- A row of bytes; no byte of it is frozen. -/
def BR (W : World) (B : Nat) (v : Value) (l : List UInt8) : Prop :=
  ∃ g cap cur fz, v = .slice (some ⟨g, 0, none⟩) l.length cap ∧ B ≤ g ∧ W.heap[g]? = some (.cells cur 5 fz) ∧ (fz.2 ≤ fz.1 ∨ cap ≤ fz.1) ∧ l.length ≤ cap ∧ cap ≤ maxLen ∧ cur.size = cap ∧ cur.toList.take l.length = l.map B8
section
variable {W W' : World} {B : Nat} {v : Value} {l : List UInt8} {M : Nat → Prop}
theorem BR.fr (h : BR W B v l) (hf : Fr M W W') (hm : ∀ k, M k → k < B) : BR W' B v l := by
  obtain ⟨g, cap, cur, fz, e, h1, h2, h3⟩ := h
  exact ⟨g, cap, cur, fz, e, h1, by rw [hf.block g (Array.getElem?_eq_some_iff.1 h2).1 (fun x => by have := hm g x; omega)]; exact h2, h3⟩
theorem BR.next (h : BR W B v l) (hb : Below W.heap.size W W') : BR W' B v l := h.fr (M := fun _ => False) (Fr.of_below hb) (fun _ x => x.elim)
theorem BR.shape (h : BR W B v l) : ∃ g cap, v = .slice (some ⟨g, 0, none⟩) l.length cap ∧ B ≤ g ∧ g < W.heap.size ∧ l.length ≤ cap ∧ cap ≤ maxLen ∧ ∀ i, i < l.length → W.cell? ⟨g, i, none⟩ = (l.map B8)[i]? ∧ W.frozen? ⟨g, i, none⟩ = false := by
  obtain ⟨g, cap, cur, fz, e, h1, h2, h3, h4, h5, h6, h7⟩ := h
  refine ⟨g, cap, e, h1, (Array.getElem?_eq_some_iff.1 h2).1, h4, h5, fun i hi => ⟨?_, ?_⟩⟩
  · rw [← h7]
    simp [World.cell?, h2, hi]
  · obtain ⟨lo, hi'⟩ := fz
    simp only [World.frozen?, h2, Bool.and_eq_false_iff, decide_eq_false_iff_not]
    rcases h3 with h3 | h3
    · simp only at h3; omega
    · simp only at h3; left; omega
theorem BR.slice (h : BR W B v l) : ∃ A cap, v = .slice A l.length cap ∧ SliceAt W A l.length (l.map B8) := by
  obtain ⟨g, cap, e, _, h2, _, _, h3⟩ := h.shape
  refine ⟨_, cap, e, by simp, .inr ⟨g, 0, rfl, h2, fun i hi => ?_⟩⟩
  rw [Nat.zero_add]
  exact (h3 i hi).1
theorem BR.set {g cap : Nat} (h : BR W B (.slice (some ⟨g, 0, none⟩) l.length cap) l) (i : Nat) (c : UInt8) : BR (W.setCell ⟨g, i, none⟩ (B8 c)) B (.slice (some ⟨g, 0, none⟩) l.length cap) (l.set i c) := by
  obtain ⟨g', cap', cur, fz, e, h1, h2, h3, h4, h5, h6, h7⟩ := h
  cases e
  refine ⟨g, cap, cur.setIfInBounds i (B8 c), fz, by rw [List.length_set], h1, ?_, h3, by rw [List.length_set]; exact h4, h5, by simpa using h6, ?_⟩
  · simp only [World.setCell, Array.getElem?_modify, h2]
    simp
  · rw [List.length_set, Array.toList_setIfInBounds, List.take_set, h7, List.map_set]
theorem BR.setFr {g cap : Nat} (h : BR W B (.slice (some ⟨g, 0, none⟩) l.length cap) l) (i : Nat) (u : Value) : Fr (fun k => B ≤ k) W (W.setCell ⟨g, i, none⟩ u) := by
  obtain ⟨g', cap', e, h1, _⟩ := h.shape
  cases e
  exact (Fr.refl _ _).setCell h1 u
end
theorem byteRow_eq (s : ByteArray) (cap : Nat) : bytesRow s cap = (s.data.toList.map B8 ++ List.replicate (cap - s.size) (Value.int .u8 0)).toArray := by
  unfold bytesRow
  apply Array.toList_inj.1
  simp
  exact fun _ _ => rfl
theorem br_conv (w : World) (s : ByteArray) (hs : s.size ≤ maxLen) : ∃ v w', (convert 9 30 (.string s)).run Tryd.prog w = .ok v w' ∧ BR w' w.heap.size v s.data.toList ∧ Below w.heap.size w w' := by
  refine ⟨_, _, run_bytes_of_string w 9 30 5 s Tryd.underlying9 Tryd.underlying30 Tryd.underlying5, ?_, (Below.refl _ _).drew.alloc (Nat.le_refl _) _⟩
  have hge := grownCap_ge w s.size 0 5
  have hle := grownCap_le_maxLen w s.size 0 5 hs
  have hsz : (bytesRow s (grownCap w s.size 0 5)).size = grownCap w s.size 0 5 := by
    rw [byteRow_eq]
    simp
    omega
  refine ⟨w.heap.size, grownCap w s.size 0 5, bytesRow s (grownCap w s.size 0 5), ((bytesRow s (grownCap w s.size 0 5)).size, (bytesRow s (grownCap w s.size 0 5)).size + 1), by rw [size_len], Nat.le_refl _, ?_, .inr (by rw [hsz]; exact Nat.le_refl _), by rw [size_len]; exact hge, hle, hsz, ?_⟩
  · show (w.heap.push _)[w.heap.size]? = _
    simp
  · rw [byteRow_eq, List.toList_toArray, List.take_append_of_le_length (by simp)]
    rw [List.take_of_length_le (by simp)]
theorem br_string (w : World) (B : Nat) (v : Value) (l : List UInt8) (h : BR w B v l) : (convert 30 9 v).run Tryd.prog w = .ok (.string ⟨l.toArray⟩) w := by
  obtain ⟨A, cap, rfl, hs⟩ := h.slice
  exact run_string_of_slice w 30 5 9 Tryd.underlying30 Tryd.underlying5 Tryd.underlying9 A l.length cap l hs
theorem store1_run (w : World) (g o : Nat) (t : TypeId) (fz : Nat × Nat) (cur : Array Value) (u : Value) (hg : w.heap[g]? = some (.cells cur t fz)) (hfz : fz.2 ≤ fz.1 ∨ cur.size ≤ fz.1) (ho : o < cur.size) (h1 : u.oneCell' = true) :
    (storeCells ⟨g, o, none⟩ [u] 0).run Tryd.prog w = .ok () (w.setRow g (cur.setIfInBounds o u)) := by
  have hadd : (⟨g, o, none⟩ : Addr).add 0 = ⟨g, o, none⟩ := by unfold Addr.add; split <;> simp_all
  have hcell : w.cell? ⟨g, o, none⟩ = some cur[o] := by simp [World.cell?, hg, ho]
  have hfro : w.frozen? ⟨g, o, none⟩ = false := by
    obtain ⟨lo, hi'⟩ := fz
    simp only [World.frozen?, hg, Bool.and_eq_false_iff, decide_eq_false_iff_not]
    simp only at hfz
    omega
  have hst : (store ((⟨g, o, none⟩ : Addr).add 0) u).run Tryd.prog w = .ok () (w.setRow g (cur.setIfInBounds o u)) := by
    rw [hadd, run_store Tryd.prog w _ u _ h1, hcell]
    simp [hfro, setCell_eq_setRow w g o cur t fz u hg]
  simp only [storeCells, Sem.run_bind, hst, Result.andThen_ok]
  rfl
set_option maxRecDepth 100000 in
theorem info5 : ∃ i, Tryd.prog.info? 5 = some i ∧ i.zero = some (.int .u8 0) ∧ i.size = 1 ∧ i.bytes = 1 := ⟨_, rfl, rfl, rfl, rfl⟩
/-- append of one byte. -/
theorem br_push (w : World) (B : Nat) (v : Value) (l : List UInt8) (h : BR w B v l) (hB : B ≤ w.heap.size) (hl : l.length ≤ 200000) (ad : Addr) (c : Nat) (x : UInt8) (hx : w.cell? (ad.add 0) = some (B8 x)) :
    ∃ A' c' w', (Builtin.append_ #[30, 30] 30 #[v, .slice (some ad) 1 c]).run Tryd.prog w = .ok (.slice A' (l.length + 1) c') w' ∧ BR w' B (.slice A' (l.length + 1) c') (l ++ [x]) ∧ Fr (fun k => v.ownBlock = some k) w w' := by
  obtain ⟨i, hi, hz, hsize, hby⟩ := info5
  obtain ⟨g, cap, cur, fz, rfl, h1, h2, h3, h4, h5, h6, h7⟩ := h
  have hnews : ∀ j u, [B8 x][j]? = some u → w.cell? (ad.add j) = some u := by
    intro j u hu
    match j, hu with
    | 0, hu =>
      simp at hu
      rw [← hu]; exact hx
  have hlx : (l ++ [x]).length = l.length + 1 := by simp
  by_cases hroom : l.length + 1 ≤ cap
  · have hf := run_firstCells_some (P := Tryd.prog) w 1 1 ad 1 c [B8 x] rfl hnews
    have hst := store1_run w g l.length 5 fz cur (B8 x) h2 (by rw [h6]; exact h3) (by omega) rfl
    refine ⟨some ⟨g, 0, none⟩, cap, w.setRow g (cur.setIfInBounds l.length (B8 x)), ?_, ⟨g, cap, cur.setIfInBounds l.length (B8 x), fz, by rw [hlx], h1, setRow_heap w g cur _ 5 fz h2, h3, by rw [hlx]; exact hroom, h5, by simpa using h6, ?_⟩, ⟨rfl, rfl, rfl, by simp [World.setRow], fun k _ hk => setRow_other w g k _ (fun e => hk (by rw [e]; rfl))⟩⟩
    · simp [Builtin.append_, run_underlying Tryd.underlying30, sizeOf, typeInfo, hi, hsize, Builtin.lenOf, hroom, hf, Addr.add_lit, hst]
    · rw [hlx, Array.toList_setIfInBounds, List.take_add_one, List.getElem?_set_self (by simpa using (show l.length < cur.size by omega)), List.take_set_of_le (Nat.le_refl _), h7]
      simp
  · have hcl : (l.map B8).length = l.length * i.size := by rw [hsize]; simp
    have holds : ∀ j u, (l.map B8)[j]? = some u → w.cell? ((⟨g, 0, none⟩ : Addr).add j) = some u := by
      intro j u hu
      have hj : j < l.length := by simpa using (List.getElem?_eq_some_iff.1 hu).1
      rw [Addr.add_mid, Nat.zero_add, ← hu, ← h7]
      simp [World.cell?, h2, hj]
    have hr := run_append_grow (P := Tryd.prog) w 30 30 5 i (.int .u8 0) Tryd.underlying30 hi hz ⟨g, 0, none⟩ l.length cap (l.map B8) hcl holds ad 1 c [B8 x] (by rw [hsize]; rfl) hnews (by omega) (by unfold maxLen at h5; omega) (growslice_fits (by omega) (by rw [hby]; omega))
    have hge := grownCap_ge w (l.length + 1) cap 5
    have hle := grownCap_le_maxLen w (l.length + 1) cap 5 (by unfold maxLen; omega)
    refine ⟨_, _, _, hr, ⟨w.heap.size, grownCap w (l.length + 1) cap 5, _, (0, 0), by rw [hlx], hB, heap_alloc_new w.drew _, .inl (Nat.le_refl _), by rw [hlx]; exact hge, hle, ?_, ?_⟩, Fr.of_below ((Below.refl _ _).drew.alloc (Nat.le_refl _) _)⟩
    · simp only [Array.size_append, List.size_toArray, size_zeroCells, List.length_map, List.length_singleton]
      have : (Value.int IntKind.u8 0).cells.size = 1 := rfl
      rw [this]
      omega
    · simp only [Array.toList_append, List.append_assoc]
      rw [← List.append_assoc, List.take_append_of_le_length (by simp), List.take_of_length_le (by simp)]
      simp
theorem BR.ne_row {W : World} {B : Nat} {v : Value} {l : List UInt8} {q : Nat} {t : TypeId} {r : List Value} (h : BR W B v l) (hr : RowAt W q t r) (ht : t ≠ 5) : v.ownBlock ≠ some q := by
  obtain ⟨g, cap, cur, fz, rfl, h1, h2, _⟩ := h
  intro e
  cases e
  unfold RowAt at hr
  rw [hr] at h2
  simp at h2
  exact ht h2.2.1
theorem BR.ge {W : World} {B : Nat} {v : Value} {l : List UInt8} (h : BR W B v l) : ∀ k, v.ownBlock = some k → B ≤ k := by
  obtain ⟨g, cap, cur, fz, rfl, h1, _⟩ := h
  intro k e
  cases e
  exact h1
theorem putB_step (l : List UInt8) (a : Nat) (t : List UInt8) (k : Nat) (c : UInt8) (h : a + t.length ≤ l.length) (hc : t[k]? = some c) : (putB l a (t.take k)).set (a + k) c = putB l a (t.take (k + 1)) := by
  have hk := (List.getElem?_eq_some_iff.1 hc).1
  have l1 : (t.take k).length = k := by rw [List.length_take]; omega
  have l2 : (t.take (k + 1)).length = k + 1 := by rw [List.length_take]; omega
  apply List.ext_getElem?
  intro i
  rw [List.getElem?_set, putB_at (by rw [l1]; omega), putB_at (by rw [l2]; omega), l1, l2, putB_len (by rw [l1]; omega)]
  by_cases e : a + k = i
  · subst e
    rw [if_pos rfl, if_pos (by omega), if_pos (by omega), List.getElem?_take, if_pos (by omega), Nat.add_sub_cancel_left, hc]
  · rw [if_neg e]
    by_cases c1 : a ≤ i ∧ i < a + k
    · rw [if_pos c1, if_pos (by omega), List.getElem?_take, if_pos (by omega), List.getElem?_take, if_pos (by omega)]
    · rw [if_neg c1, if_neg (by omega)]
theorem putB_zero' (l : List UInt8) (a : Nat) (t : List UInt8) : putB l a (t.take 0) = l := by
  unfold putB
  simp
/-- Zeros behind a row, as far as N. -/
def ExI (w : World) (B pb : Nat) (T : TypeId) (row : List Value) (l0 : List UInt8) (N : Nat) (v : Value) (wi : World) : Prop :=
  ∃ n0, BR wi B v (l0 ++ List.replicate n0 0) ∧ (n0 = 0 ∨ l0.length + n0 ≤ N) ∧ RowAt wi pb T row ∧ Below B w wi
theorem ext_done {l0 : List UInt8} {n0 N : Nat} (h : n0 = 0 ∨ l0.length + n0 ≤ N) (h2 : N ≤ l0.length + n0) : l0 ++ List.replicate n0 0 = ext l0 N := by
  unfold ext
  congr 2
  omega
/-- A zero more. -/
theorem ExI.push {w wi : World} {B pb : Nat} {T : TypeId} {row : List Value} {l0 : List UInt8} {N : Nat} {n0 : Nat} {v : Value} (hT : T ≠ 5) (hB : B ≤ w.heap.size) (hb : BR wi B v (l0 ++ List.replicate n0 0)) (hr : RowAt wi pb T row) (hbl : Below B w wi) (hN : l0.length + n0 < N) (hN2 : N ≤ 200000) :
    ∃ A' c' w', (Builtin.append_ #[30, 30] 30 #[v, .slice (some ⟨wi.heap.size, 0, none⟩) 1 1]).run Tryd.prog (wi.alloc (.cells #[.int .u8 0] 5)) = .ok (.slice A' (l0.length + (n0 + 1)) c') w' ∧ ExI w B pb T row l0 N (.slice A' (l0.length + (n0 + 1)) c') w' ∧ BR w' B (.slice A' (l0.length + (n0 + 1)) c') (l0 ++ List.replicate (n0 + 1) 0) := by
  have hal : Below wi.heap.size wi (wi.alloc (.cells #[.int .u8 0] 5)) := bA (Below.refl _ _) _
  have hlen : (l0 ++ List.replicate n0 (0 : UInt8)).length = l0.length + n0 := by simp
  have hs := hbl.size
  obtain ⟨A', c', w', r1, b1, f1⟩ := br_push _ B v _ (hb.next hal) (by have := hal.size; omega) (by rw [hlen]; omega) ⟨wi.heap.size, 0, none⟩ 1 0 (by
    rw [Addr.add_mid]
    exact (RowAt.new wi 5 [.int .u8 0]).cell 0)
  rw [hlen] at r1 b1
  have e : l0 ++ List.replicate n0 (0 : UInt8) ++ [0] = l0 ++ List.replicate (n0 + 1) 0 := by rw [List.append_assoc, ← List.replicate_succ']
  rw [e] at b1
  have hne := (hb.next hal).ne_row (hr.next hal) hT
  refine ⟨A', c', w', r1, ⟨n0 + 1, b1, .inr (by omega), (hr.next hal).fr f1 (fun x => hne x), ?_⟩, b1⟩
  exact (hbl.trans (hal.mono (by omega))).trans (Fr.below f1 (by have := hal.size; omega) (fun k x => hb.ge k x))
/-- A text that is written into a row, byte by byte. -/
def PuI (w : World) (B pb : Nat) (T : TypeId) (row : List Value) (l1 : List UInt8) (a : Nat) (t : ByteArray) (v : Value) (i : Value) (wi : World) : Prop :=
  ∃ k : Nat, k ≤ t.size ∧ i = .int .i64 k ∧ BR wi B v (putB l1 a (t.data.toList.take k)) ∧ RowAt wi pb T row ∧ Below B w wi
theorem PuI.step {w wi : World} {B pb : Nat} {T : TypeId} {row : List Value} {l1 : List UInt8} {a k g cap : Nat} {t : ByteArray} (hT : T ≠ 5) (hB : B ≤ w.heap.size) (hb : BR wi B (.slice (some ⟨g, 0, none⟩) l1.length cap) (putB l1 a (t.data.toList.take k))) (hr : RowAt wi pb T row) (hbl : Below B w wi) (h : a + t.size ≤ l1.length) (hk : k < t.size) :
    PuI w B pb T row l1 a t (.slice (some ⟨g, 0, none⟩) l1.length cap) (.int .i64 ((k + 1 : Nat) : Int)) (wi.setCell ⟨g, a + k, none⟩ (B8 t[k])) := by
  have hlen : (putB l1 a (t.data.toList.take k)).length = l1.length := putB_len (by rw [List.length_take, size_len]; omega)
  have hne := hb.ne_row hr hT
  have hc : t.data.toList[k]? = some t[k] := by
    rw [List.getElem?_eq_getElem (by rw [size_len]; exact hk)]
    rfl
  rw [← hlen] at hb
  have h2 := hb.set (a + k) t[k]
  have hf := hb.setFr (a + k) (B8 t[k])
  rw [putB_step l1 a t.data.toList k t[k] (by rw [size_len]; exact h) hc, hlen] at h2
  refine ⟨k + 1, by omega, rfl, h2, hr.other _ _ (fun e => hne (by rw [e]; rfl)), hbl.trans (Fr.below hf (Nat.le_trans hB hbl.size) (fun _ x => x))⟩
end Go.Proofs.YtkcebbidmlnmmaaDoor
