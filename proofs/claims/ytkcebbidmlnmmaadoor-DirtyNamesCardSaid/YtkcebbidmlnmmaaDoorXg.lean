/- Rows of numbers of one's own: sorted, inserted into, compared. -/
import Derived.Test.YtkcebbidmlnmmaaDoorXb
import Derived.Test.YtkcebbidmlnmmaaDoorSh
import Derived.Test.YtkcebbidmlnmmaaDoorSe
import Derived.Sort.OwnSortedInts
namespace Go.Proofs.YtkcebbidmlnmmaaDoor
open Go.RowKit Go.Shelf
def I64 (k : Int) : Value := .int .i64 k
theorem sorted_ext : ∀ l1 l2 : List Int, l1.Pairwise (· < ·) → l2.Pairwise (· < ·) → (∀ x, x ∈ l1 ↔ x ∈ l2) → l1 = l2
  | [], [], _, _, _ => rfl
  | [], y :: l2, _, _, h => absurd ((h y).2 (List.mem_cons_self ..)) (by simp)
  | x :: l1, [], _, _, h => absurd ((h x).1 (List.mem_cons_self ..)) (by simp)
  | x :: l1, y :: l2, h1, h2, h => by
    obtain ⟨a1, a2⟩ := List.pairwise_cons.1 h1
    obtain ⟨b1, b2⟩ := List.pairwise_cons.1 h2
    have e : x = y := by
      rcases List.mem_cons.1 ((h x).1 (List.mem_cons_self ..)) with e | hx
      · exact e
      · rcases List.mem_cons.1 ((h y).2 (List.mem_cons_self ..)) with e | hy
        · exact e.symm
        · have := b1 x hx
          have := a1 y hy
          omega
    subst e
    rw [sorted_ext l1 l2 a2 b2 fun z => ?_]
    constructor
    · intro hz
      rcases List.mem_cons.1 ((h z).1 (List.mem_cons_of_mem _ hz)) with e | hz'
      · subst e; have := a1 z hz; omega
      · exact hz'
    · intro hz
      rcases List.mem_cons.1 ((h z).2 (List.mem_cons_of_mem _ hz)) with e | hz'
      · subst e; have := b1 z hz; omega
      · exact hz'
/-- A slice of ints over a row of its own, no older than B. -/
def OwnI (B : Nat) (l : List Int) (v : Value) (w : World) : Prop := w.ownsRow B 3 1 v l.length (l.map I64)
theorem OwnI.shape {B : Nat} {l : List Int} {v : Value} {w : World} (h : OwnI B l v w) : ∃ a cap, v = .slice a l.length cap := by
  obtain ⟨a, cap, e, _⟩ := SliceAt.owned h
  exact ⟨a, cap, e⟩
set_option maxRecDepth 100000 in
theorem info3 : ∃ i z, Tryd.prog.info? 3 = some i ∧ i.zero = some z ∧ i.size = 1 ∧ i.bytes = 8 ∧ z.cells.size = 1 := ⟨_, _, rfl, rfl, rfl, rfl, rfl⟩
theorem Fr.of_belowB {B : Nat} {w w' : World} (h : Below B w w') : Fr (fun k => B ≤ k) w w' := ⟨h.os, h.tape, h.output, h.size, fun k _ hn => h.block k (by omega)⟩
theorem sort_own (w : World) (B : Nat) (v : Value) (l : List Int) (h : OwnI B l v w) (hl : l.length ≤ 100000) (hB : B ≤ w.heap.size) :
    Calls Tryd.prog 38 #[v] w fun e w' => e = .returned (.tuple #[]) ∧ OwnI B (l.mergeSort fun x y => decide (x ≤ y)) v w' ∧ Below B w w' := by
  rcases h.2 with ⟨rfl, h0⟩ | ⟨g, cap, cur, rfl, hg, hb, h1, h2, h3, h4⟩
  · refine (Tryd.slices_Sort_int_none none 0 w).mono fun e w' ⟨he, hw⟩ => ⟨he, ?_, hw ▸ Below.refl _ _⟩
    obtain rfl : l = [] := List.eq_nil_of_length_eq_zero h0
    rw [hw, List.mergeSort_nil]
    exact h
  · have hlt : g < w.heap.size := (Array.getElem?_eq_some_iff.1 hb).1
    refine (Tryd.slices_Sort_int g 0 cap l w (holds_of_blockI hb (by rw [Nat.mul_one] at h4; exact h4)) hlt (by omega)).mono fun e w' ⟨he, n, os, hw⟩ => ⟨he, ?_, ?_⟩
    · rw [hw]
      unfold OwnI
      rw [List.length_mergeSort]
      exact ownsRow_sortedI (by rw [List.length_mergeSort]) hg hb h1 h2 h3
    · rw [hw]
      exact (Below.refl _ _).grown (grownBy_sortedI _) hB (fun k hk => by cases hk; exact hg)
theorem nodup_le : ∀ (l l' : List Int), l.Nodup → l ⊆ l' → l.length ≤ l'.length
  | [], _, _, _ => Nat.zero_le _
  | x :: l, l', h1, h2 => by
    obtain ⟨a1, a2⟩ := List.nodup_cons.1 h1
    have hx : x ∈ l' := h2 (List.mem_cons_self ..)
    have := nodup_le l (l'.erase x) a2 (fun y hy => (List.mem_erase_of_ne (fun e => a1 (by rw [← e]; exact hy))).2 (h2 (List.mem_cons_of_mem _ hy)))
    rw [List.length_erase_of_mem hx] at this
    have : 0 < l'.length := List.length_pos_of_mem hx
    simp only [List.length_cons]
    omega
theorem ownI_fr {M : Nat → Prop} {B : Nat} {l : List Int} {v : Value} {w w' : World} (h : OwnI B l v w) (hf : Fr M w w') (hm : ∀ k, M k → k < B) : OwnI B l v w' := by
  rcases h.2 with ⟨e, h0⟩ | ⟨g, cap, cur, e, hg, hb, h1⟩
  · exact ⟨h.1, .inl ⟨e, h0⟩⟩
  · refine ⟨h.1, .inr ⟨g, cap, cur, e, hg, ?_, h1⟩⟩
    rw [hf.block g (Array.getElem?_eq_some_iff.1 hb).1 (fun x => by have := hm g x; omega)]
    exact hb
theorem OwnI.mono {B B' : Nat} {l : List Int} {v : Value} {w : World} (h : OwnI B l v w) (hb : B' ≤ B) : OwnI B' l v w := by
  rcases h.2 with ⟨e, h0⟩ | ⟨g, cap, cur, e, hg, h1⟩
  · exact ⟨h.1, .inl ⟨e, h0⟩⟩
  · exact ⟨h.1, .inr ⟨g, cap, cur, e, Nat.le_trans hb hg, h1⟩⟩
theorem OwnI.nil (B : Nat) (w : World) : OwnI B [] (.slice none 0 0) w := World.ownsRow_nil _ _ _ _
theorem OwnI.next {B : Nat} {l : List Int} {v : Value} {w w' : World} (h : OwnI B l v w) (hb : Below w.heap.size w w') : OwnI B l v w' := ownI_fr h (Fr.of_below hb (M := fun _ => False)) (fun _ x => x.elim)
theorem OwnI.slice {B : Nat} {l : List Int} {v : Value} {w : World} (h : OwnI B l v w) : ∃ a cap, v = .slice a l.length cap ∧ SliceAt w a l.length (l.map I64) := SliceAt.owned h
theorem OwnI.at {B : Nat} {l : List Int} {A : Option Addr} {n cap : Nat} {w : World} (h : OwnI B l (.slice A n cap) w) (i : Nat) (x : Int) (hx : l[i]? = some x) :
    ∃ g, A = some ⟨g, 0, none⟩ ∧ B ≤ g ∧ g < w.heap.size ∧ w.cell? ⟨g, i, none⟩ = some (.int .i64 x) ∧ w.frozen? ⟨g, i, none⟩ = false := by
  have hi : i < l.length := (List.getElem?_eq_some_iff.1 hx).1
  rcases h.2 with ⟨e, h0⟩ | ⟨g, cap', cur, e, hg, hb, h1, h2, h3, h4⟩
  · omega
  · cases e
    refine ⟨g, rfl, hg, (Array.getElem?_eq_some_iff.1 hb).1, ?_, by simp [World.frozen?, hb]⟩
    have hc := (show w.ownsRow B 3 1 (.slice (some ⟨g, 0, none⟩) _ _) _ _ from h).cellAt i (by omega)
    rw [hc, List.getElem?_map, hx]
    rfl
set_option maxRecDepth 100000 in
theorem ht51 : Tryd.prog.underlying 51 = some (.slice (Tryd.prog.elem 51)) := Tryd.underlying51
set_option maxRecDepth 100000 in
theorem sz51 (w : World) : (sizeOf (Tryd.prog.elem 51)).run Tryd.prog w = .ok 1 w := by rfl
set_option maxRecDepth 100000 in
theorem slice_to (A : Option Addr) (n cap m : Nat) (hm : m ≤ cap) (w : World) : (Instr.slice 51 (.slice A n cap) none (some (.int .i64 m)) none).run Tryd.prog w = .ok (sliced A 0 m cap 1) w := by
  rw [run_slice_h (P := Tryd.prog) w 51 A n cap ht51 .i64 m (by omega) (by omega), sz51]
  simp
set_option maxRecDepth 100000 in
theorem slice_from (A : Option Addr) (n cap m : Nat) (hm : m ≤ n) (w : World) : (Instr.slice 51 (.slice A n cap) (some (.int .i64 m)) none none).run Tryd.prog w = .ok (sliced A m n cap 1) w := by
  rw [run_slice_l (P := Tryd.prog) w 51 A n cap ht51 .i64 m (by omega) (by omega), sz51]
  simp
theorem sliced_to {W : World} {B cap : Nat} {O : List Int} {A : Option Addr} (h : OwnI B O (.slice A O.length cap) W) (m : Nat) (hm : m ≤ O.length) : ∃ A1, sliced A 0 m cap 1 = .slice A1 m cap ∧ SliceAt W A1 m ((O.take m).map I64) ∧ (A1 = none → m = 0) ∧ m ≤ cap := by
  rcases h.2 with ⟨e, h0⟩ | ⟨g, c, cur, e, hg, hb, h1, h2, h3, h4⟩
  · have hO : O = [] := List.eq_nil_of_length_eq_zero h0
    subst hO
    obtain rfl : m = 0 := by simpa using hm
    simp only [List.length_nil, Value.slice.injEq] at e
    obtain ⟨rfl, _, rfl⟩ := e
    exact ⟨none, by simp [sliced], SliceAt.nil _ _, (fun _ => rfl), by omega⟩
  · cases e
    refine ⟨some ⟨g, 0, none⟩, ?_, ?_, (fun h => by cases h), by omega⟩
    · unfold sliced
      simp [Addr.add]
    · refine ⟨by simp; omega, ?_⟩
      by_cases m0 : m = 0
      · exact .inl m0
      · refine .inr ⟨g, 0, rfl, (Array.getElem?_eq_some_iff.1 hb).1, fun i hi => ?_⟩
        have hc := (show W.ownsRow B 3 1 (.slice (some ⟨g, 0, none⟩) _ _) _ _ from h).cellAt i (by omega)
        rw [Nat.zero_add, hc, List.getElem?_map, List.getElem?_map, List.getElem?_take, if_pos hi]
theorem sliced_from {W : World} {B cap : Nat} {O : List Int} {A : Option Addr} (h : OwnI B O (.slice A O.length cap) W) (m : Nat) (hm : m ≤ O.length) : ∃ A2 c2, sliced A m O.length cap 1 = .slice A2 (O.length - m) c2 ∧ SliceAt W A2 (O.length - m) ((O.drop m).map I64) ∧ (A2 = none → O.length - m = 0) := by
  rcases h.2 with ⟨e, h0⟩ | ⟨g, c, cur, e, hg, hb, h1, h2, h3, h4⟩
  · have hO : O = [] := List.eq_nil_of_length_eq_zero h0
    subst hO
    obtain rfl : m = 0 := by simpa using hm
    simp only [List.length_nil, Value.slice.injEq] at e
    obtain ⟨rfl, _, rfl⟩ := e
    exact ⟨none, 0, by simp [sliced], SliceAt.nil _ _, fun _ => rfl⟩
  · cases e
    by_cases hc : cap = m
    · have h0 : O.length - m = 0 := by omega
      refine ⟨some ⟨g, 0, none⟩, cap - m, by unfold sliced; rw [if_pos hc], ?_, fun h => by cases h⟩
      rw [h0]
      have : O.drop m = [] := List.drop_eq_nil_of_le (by omega)
      rw [this]
      exact SliceAt.nil _ _
    · refine ⟨some ⟨g, m, none⟩, cap - m, ?_, ?_, fun h => by cases h⟩
      · unfold sliced
        rw [if_neg hc]
        simp [Addr.add]
        omega
      · refine ⟨by simp, ?_⟩
        by_cases m0 : O.length - m = 0
        · exact .inl m0
        · refine .inr ⟨g, m, rfl, (Array.getElem?_eq_some_iff.1 hb).1, fun i hi => ?_⟩
          have hc := (show W.ownsRow B 3 1 (.slice (some ⟨g, 0, none⟩) _ _) _ _ from h).cellAt (m + i) (by omega)
          rw [hc, List.getElem?_map, List.getElem?_map, List.getElem?_drop]
theorem ins_run (W : World) (B cap : Nat) (O : List Int) (A : Option Addr) (h : OwnI B O (.slice A O.length cap) W) (m : Nat) (hm : m ≤ O.length) (x : Int) (hl : O.length ≤ 70000) :
    ∃ A1 A2 c2 v1 W2 v2 W3 v3 W4, (∀ w, (Instr.slice 51 (.slice A O.length cap) none (some (.int .i64 m)) none).run Tryd.prog w = .ok (.slice A1 m cap) w) ∧ (∀ w, (Instr.slice 51 (.slice A O.length cap) (some (.int .i64 m)) none none).run Tryd.prog w = .ok (.slice A2 (O.length - m) c2) w) ∧
      (Builtin.append_ #[51, 51] 51 #[.slice (some ⟨W.heap.size, 0, none⟩) 0 0, .slice A1 m cap]).run Tryd.prog (W.alloc (.cells #[] 3)) = .ok v1 W2 ∧
      (Builtin.append_ #[51, 51] 51 #[v1, .slice (some ⟨W2.heap.size, 0, none⟩) 1 1]).run Tryd.prog (W2.alloc (.cells #[.int .i64 x] 3)) = .ok v2 W3 ∧
      (Builtin.append_ #[51, 51] 51 #[v2, .slice A2 (O.length - m) c2]).run Tryd.prog W3 = .ok v3 W4 ∧ OwnI W.heap.size (O.take m ++ [x] ++ O.drop m) v3 W4 ∧ Below W.heap.size W W2 ∧ Below W.heap.size W W4 := by
  obtain ⟨A1, e1, s1, n1, hmc⟩ := sliced_to h m hm
  obtain ⟨A2, c2, e2, s2, n2⟩ := sliced_from h m hm
  obtain ⟨i, z, q1, q2, q3, q4, q5⟩ := info3
  have hal : Below W.heap.size W (W.alloc (.cells #[] 3)) := (Below.refl _ _).alloc (Nat.le_refl _) _
  have hnew : (W.alloc (.cells #[] 3)).ownsRow W.heap.size 3 1 (.slice (some ⟨W.heap.size, 0, none⟩) 0 0) 0 ([] : List Value) :=
    ⟨rfl, .inr ⟨W.heap.size, 0, #[], rfl, Nat.le_refl _, by show (W.heap.push _)[W.heap.size]? = _; simp, by simp, by simp [maxLen], rfl, rfl⟩⟩
  have tl : (O.take m).length = m := by rw [List.length_take]; omega
  have dl : (O.drop m).length = O.length - m := List.length_drop
  obtain ⟨v1, W2, r1, o1, _, _, b1⟩ := run_app (P := Tryd.prog) (W.alloc (.cells #[] 3)) W.heap.size 51 51 3 i z 8 Tryd.underlying51 q1 q2 q3 q4 q5 _ 0 [] hnew A1 m cap ((O.take m).map I64) (s1.next hal) n1 (fun u hu => by obtain ⟨y, _, rfl⟩ := List.mem_map.1 hu; rfl) (by unfold maxLen; omega) (by omega) (by simp)
  have hb2 : Below W.heap.size W W2 := hal.trans b1
  have hal2 : Below W2.heap.size W2 (W2.alloc (.cells #[.int .i64 x] 3)) := (Below.refl _ _).alloc (Nat.le_refl _) _
  have hx : RowAt (W2.alloc (.cells #[.int .i64 x] 3)) W2.heap.size 3 [.int .i64 x] := RowAt.new W2 3 _
  obtain ⟨v2, W3, r2, o2, _, _, b2⟩ := run_app (P := Tryd.prog) (W2.alloc (.cells #[.int .i64 x] 3)) W.heap.size 51 51 3 i z 8 Tryd.underlying51 q1 q2 q3 q4 q5 v1 (0 + m) _ (o1.alloc _) (some ⟨W2.heap.size, 0, none⟩) 1 1 [.int .i64 x] (SliceAt.row hx) (fun h => by cases h) (fun u hu => by simp at hu; subst hu; rfl) (by unfold maxLen; omega) (by omega) (by have := hb2.size; simp; omega)
  have hb3 : Below W.heap.size W W3 := (bt hb2 hal2).trans b2
  obtain ⟨v3, W4, r3, o3, _, _, b3⟩ := run_app (P := Tryd.prog) W3 W.heap.size 51 51 3 i z 8 Tryd.underlying51 q1 q2 q3 q4 q5 v2 (0 + m + 1) _ o2 A2 (O.length - m) c2 ((O.drop m).map I64) (s2.next hb3) n2 (fun u hu => by obtain ⟨y, _, rfl⟩ := List.mem_map.1 hu; rfl) (by unfold maxLen; omega) (by omega) hb3.size
  refine ⟨A1, A2, c2, v1, W2, v2, W3, v3, W4, fun w => by rw [slice_to A O.length cap m hmc w, e1], fun w => by rw [slice_from A O.length cap m hm w, e2], r1, r2, r3, ?_, hb2, hb3.trans b3⟩
  unfold OwnI
  have e : (O.take m ++ [x] ++ O.drop m).length = 0 + m + 1 + (O.length - m) := by simp only [List.length_append, tl, dl, List.length_singleton]; omega
  rw [e, List.map_append, List.map_append]
  simpa [I64] using o3
def GA (W : World) (G : List Int) (v : Value) : Prop := ∃ A c, v = .slice A G.length c ∧ SliceAt W A G.length (G.map I64)
theorem GA.next {W W' : World} {G : List Int} {v : Value} (h : GA W G v) (hb : Below W.heap.size W W') : GA W' G v := by
  obtain ⟨A, c, e, hs⟩ := h
  exact ⟨A, c, e, hs.next hb⟩
theorem OwnI.ga {B : Nat} {l : List Int} {v : Value} {w : World} (h : OwnI B l v w) : GA w l v := h.slice
/-- The row so far: rising, of the same numbers. -/
structure So2 (O l : List Int) : Prop where
  so : O.Pairwise (· < ·)
  mem : ∀ x, x ∈ O ↔ x ∈ l
theorem So2.len {O l : List Int} (h : So2 O l) : O.length ≤ l.length :=
  nodup_le O l (h.so.imp (fun h => by omega)) (fun x hx => (h.mem x).1 hx)
theorem So2.in_ {O l : List Int} (h : So2 O l) {x : Int} (hx : x ∈ O) : So2 O (l ++ [x]) := by
  refine ⟨h.so, fun y => ?_⟩
  rw [List.mem_append, List.mem_singleton, ← h.mem]
  exact ⟨.inl, fun e => e.elim id (fun e => by rw [e]; exact hx)⟩
theorem So2.ins {O l : List Int} (h : So2 O l) {x : Int} {m : Nat} (hm : m ≤ O.length) (h1 : ∀ j y, j < m → O[j]? = some y → y < x) (h2 : ∀ j y, m ≤ j → O[j]? = some y → x < y) : So2 (O.take m ++ [x] ++ O.drop m) (l ++ [x]) := by
  have ht : ∀ y ∈ O.take m, y < x := fun y hy => by
    obtain ⟨j, hj, e⟩ := List.mem_iff_getElem.1 hy
    have hjm : j < m := by rw [List.length_take] at hj; omega
    refine h1 j y hjm ?_
    rw [← e, List.getElem_take, List.getElem?_eq_getElem]
  have hd : ∀ y ∈ O.drop m, x < y := fun y hy => by
    obtain ⟨j, hj, e⟩ := List.mem_iff_getElem.1 hy
    refine h2 (m + j) y (by omega) ?_
    rw [← e, List.getElem_drop, List.getElem?_eq_getElem]
  refine ⟨?_, fun y => ?_⟩
  · rw [List.pairwise_append, List.pairwise_append]
    refine ⟨⟨h.so.sublist (List.take_sublist ..), by simp, fun y hy z hz => by rw [List.mem_singleton.1 hz]; exact ht y hy⟩, h.so.sublist (List.drop_sublist ..), fun y hy z hz => ?_⟩
    have := hd z hz
    rcases List.mem_append.1 hy with hy | hy
    · have := ht y hy; omega
    · rw [List.mem_singleton.1 hy]; exact this
  · rw [List.mem_append, List.mem_append, List.mem_append, List.mem_singleton, ← h.mem]
    have : y ∈ O ↔ y ∈ O.take m ∨ y ∈ O.drop m := by rw [← List.mem_append, List.take_append_drop]
    rw [this]
    constructor
    · rintro ((h | h) | h)
      · exact .inl (.inl h)
      · exact .inr h
      · exact .inl (.inr h)
    · rintro ((h | h) | h)
      · exact .inl (.inl h)
      · exact .inr h
      · exact .inl (.inr h)
def SInv (w : World) (a b : List Int) (i : Value) (wr : World) : Prop := ∃ k : Nat, k ≤ a.length ∧ i = .int .i64 k ∧ a.take k = b.take k ∧ Below w.heap.size w wr
set_option maxHeartbeats 2000000 in
theorem same_eq (w : World) (A B : Option Addr) (c1 c2 : Nat) (a b : List Int) (n : Nat) (ha : SliceAt w A n (a.map I64)) (hb : SliceAt w B n (b.map I64)) (hn1 : a.length = n) (hn2 : b.length = n) (hm : n ≤ 100000) :
    Calls Tryd.prog 24 #[.slice A n c1, .slice B n c2] w fun e w' => e = .returned (.bool (decide (a = b))) ∧ Below w.heap.size w w' := by
  have HA := Lib.hid ha
  have HB := Lib.hid hb
  have HN1 := Lib.hid hn1
  have HN2 := Lib.hid hn2
  clear ha hb hn1 hn2
  go_enter Tryd.func24, Tryd.ntmps24
  go_wp2_with fail
  go_loopw [5] (fun i wr => SInv w a b i wr) (fun i _ => n - (intOf i).toNat)
  case atStart => exact ⟨0, by omega, rfl, by simp, Below.refl _ _⟩
  case round =>
    obtain ⟨k, hk, rfl, ht, hB⟩ := hrel
    have HT := Lib.hid ht
    have HBW := Lib.hid hB
    rw [HN1.out] at hk
    clear ht hB
    by_cases hlt : k < n
    · obtain ⟨b1, o1, rfl, l1, q1⟩ := HA.out.get k hlt
      obtain ⟨b2, o2, rfl, l2, q2⟩ := HB.out.get k hlt
      obtain ⟨x, hx⟩ : ∃ x, a[k]? = some x := ⟨a[k]'(by rw [HN1.out]; omega), List.getElem?_eq_getElem _⟩
      obtain ⟨y, hy⟩ : ∃ y, b[k]? = some y := ⟨b[k]'(by rw [HN2.out]; omega), List.getElem?_eq_getElem _⟩
      rw [List.getElem?_map, hx] at q1
      rw [List.getElem?_map, hy] at q2
      have HX := Lib.hid hx
      have HY := Lib.hid hy
      have d1 : wr.cell? ⟨b1, o1 + k, none⟩ = some (.int .i64 x) := (HBW.out.cell l1).trans q1
      have d2 : wr.cell? ⟨b2, o2 + k, none⟩ = some (.int .i64 y) := (HBW.out.cell l2).trans q2
      clear q1 q2 hx hy
      have m1 : b1 < wr.heap.size := Nat.lt_of_lt_of_le l1 HBW.out.size
      have m2 : b2 < wr.heap.size := Nat.lt_of_lt_of_le l2 HBW.out.size
      go_wp2_with fail
      refine wp_region_parts (by kernel_rfl) (by kernel_rfl) ?_
      have hb0 : Below wr.heap.size wr wr.drew := (Below.refl _ _).drew
      generalize wr.drew = W at *
      apply regL_lq W.heap.size
      intro D hD hn
      have p1 := fun z : Bd W.heap.size W D => ((bt hb0 z.ok).cell m1).trans d1
      have p2 := fun z : Bd W.heap.size W D => ((bt hb0 z.ok).cell m2).trans d2
      repeat (apply wpLQ_pin rfl rfl; intro K hK; go_big_quiet_op; go_big_quiet_on; apply And.intro rfl)
      apply wpLQ_nil (by simp)
      intro W1 hb1 _
      have HBB := Lib.hid (bt HBW.out (bt hb0 hb1))
      clear p1 p2 hn hD hb0 hb1 d1 d2 m1 m2 l1 l2
      by_cases hxy : x = y
      · subst hxy
        go_wp2
        go_roundw
        case rel =>
          refine ⟨k + 1, by rw [HN1.out]; omega, by go_num, ?_, HBB.out⟩
          rw [List.take_add_one, List.take_add_one, HT.out, HX.out, HY.out]
        case measure => simp [intOf]; omega
      · have hd : (x == y) = false := by simpa using hxy
        go_wp2
        go_ret
        refine ⟨?_, HBB.out⟩
        have hne : a ≠ b := by
          rintro rfl
          have := HX.out.symm.trans HY.out
          exact hxy (by simpa using this)
        simp [hne]
    · obtain rfl : k = n := by omega
      go_wp2
      go_ret
      refine ⟨?_, HBW.out⟩
      have e : a = b := by
        have := HT.out
        rwa [List.take_of_length_le (by rw [HN1.out]; omega), List.take_of_length_le (by rw [HN2.out]; omega)] at this
      simp [e]
theorem same_ne (w : World) (A B : Option Addr) (c1 c2 : Nat) (n1 n2 : Nat) (hne : n1 ≠ n2) :
    Calls Tryd.prog 24 #[.slice A n1 c1, .slice B n2 c2] w fun e w' => e = .returned (.bool false) ∧ Below w.heap.size w w' := by
  have hd : ((n1 : Int) == n2) = false := by simpa using (by omega : (n1 : Int) ≠ n2)
  go_enter Tryd.func24, Tryd.ntmps24
  go_wp2
  go_ret
  exact ⟨rfl, Below.refl _ _⟩
theorem same_any (w : World) (a b : List Int) (u v : Value) (ha : ∃ A c, u = .slice A a.length c ∧ SliceAt w A a.length (a.map I64)) (hb : ∃ A c, v = .slice A b.length c ∧ SliceAt w A b.length (b.map I64)) (h1 : a.length ≤ 100000) :
    Calls Tryd.prog 24 #[u, v] w fun e w' => e = .returned (.bool (decide (a = b))) ∧ Below w.heap.size w w' := by
  obtain ⟨A, c1, rfl, s1⟩ := ha
  obtain ⟨B, c2, rfl, s2⟩ := hb
  by_cases hl : a.length = b.length
  · rw [← hl] at s2 ⊢
    exact same_eq w A B c1 c2 a b a.length s1 s2 rfl hl.symm h1
  · have hne : a ≠ b := fun e => hl (by rw [e])
    rw [show decide (a = b) = false from by simp [hne]]
    exact same_ne w A B c1 c2 _ _ hl
theorem so2_unique {O O' l : List Int} (h : So2 O l) (h' : So2 O' l) : O = O' := sorted_ext O O' h.so h'.so (fun x => by rw [h.mem, h'.mem])
theorem so2_sort {seen l : List Int} (hn : seen.Nodup) (hm : ∀ x, x ∈ seen ↔ x ∈ l) : So2 (seen.mergeSort fun x y => decide (x ≤ y)) l := by
  have hp : (seen.mergeSort fun x y => decide (x ≤ y)).Perm seen := List.mergeSort_perm _ _
  have hs : (seen.mergeSort fun x y => decide (x ≤ y)).Pairwise (fun x y => decide (x ≤ y) = true) := List.pairwise_mergeSort (fun a b c h1 h2 => by simp at *; omega) (fun a b => by simp; omega) seen
  have hn' : (seen.mergeSort fun x y => decide (x ≤ y)).Nodup := hp.nodup_iff.2 hn
  refine ⟨?_, fun x => by rw [hp.mem_iff]; exact hm x⟩
  have := hs.and hn'
  refine this.imp fun h => ?_
  obtain ⟨h1, h2⟩ := h
  simp at h1
  omega
end Go.Proofs.YtkcebbidmlnmmaaDoor
