/- those: the blocks that a predicate holds of, rising. -/
import Derived.Test.YtaokogeblpjabaaWb
import Derived.Test.YtaokogeblpjabaaSh
import Derived.Test.YtaokogeblpjabaaAp
import Derived.Sort.OwnSortedInts
namespace Go.Proofs.Ytaokogeblpjabaa
open Go.RowKit Go.Shelf
def I64 (k : Int) : Value := .int .i64 k
/-- All numbers below 8192 of which p holds, rising. -/
def theL (p : Int → Bool) : List Int := ((List.range 8192).map (fun n : Nat => (n : Int))).filter p
theorem mem_theL {p : Int → Bool} {x : Int} : x ∈ theL p ↔ 0 ≤ x ∧ x < 8192 ∧ p x = true := by
  unfold theL
  rw [List.mem_filter, List.mem_map]
  constructor
  · rintro ⟨⟨n, hn, rfl⟩, h⟩
    rw [List.mem_range] at hn
    exact ⟨by omega, by omega, h⟩
  · rintro ⟨h1, h2, h3⟩
    exact ⟨⟨x.toNat, by rw [List.mem_range]; omega, by omega⟩, h3⟩
theorem theL_sorted (p : Int → Bool) : (theL p).Pairwise (· < ·) := by
  unfold theL
  refine List.Pairwise.filter _ ?_
  rw [List.pairwise_map]
  exact List.pairwise_lt_range.imp (fun h => by omega)
theorem theL_len (p : Int → Bool) : (theL p).length ≤ 8192 := by
  unfold theL
  refine Nat.le_trans (List.length_filter_le _ _) ?_
  simp
theorem theL_congr {p q : Int → Bool} (h : ∀ x, p x = q x) : theL p = theL q := by rw [show p = q from funext h]
theorem sorted_ext : ∀ l1 l2 : List Int, l1.Pairwise (· < ·) → l2.Pairwise (· < ·) → (∀ x, x ∈ l1 ↔ x ∈ l2) → l1 = l2
  | [], [], _, _, _ => rfl
  | [], y :: l2, _, _, h => absurd ((h y).2 (List.mem_cons_self ..)) (by simp)
  | x :: l1, [], _, _, h => absurd ((h x).1 (List.mem_cons_self ..)) (by simp)
  | x :: l1, y :: l2, h1, h2, h => by
    obtain ⟨a1, a2⟩ := List.pairwise_cons.1 h1
    obtain ⟨b1, b2⟩ := List.pairwise_cons.1 h2
    have e : x = y := by
      rcases List.mem_cons.1 ((h x).1 (List.mem_cons_self ..)) with e | hx
      · exact e
      · rcases List.mem_cons.1 ((h y).2 (List.mem_cons_self ..)) with e | hy
        · exact e.symm
        · have := b1 x hx
          have := a1 y hy
          omega
    subst e
    rw [sorted_ext l1 l2 a2 b2 fun z => ?_]
    constructor
    · intro hz
      rcases List.mem_cons.1 ((h z).1 (List.mem_cons_of_mem _ hz)) with e | hz'
      · subst e; have := a1 z hz; omega
      · exact hz'
    · intro hz
      rcases List.mem_cons.1 ((h z).2 (List.mem_cons_of_mem _ hz)) with e | hz'
      · subst e; have := b1 z hz; omega
      · exact hz'
theorem sort_theL {p : Int → Bool} {l : List Int} (hn : l.Nodup) (hm : ∀ x, x ∈ l ↔ x ∈ theL p) : l.mergeSort (fun x y => decide (x ≤ y)) = theL p := by
  have hp : (l.mergeSort fun x y => decide (x ≤ y)).Perm l := List.mergeSort_perm _ _
  have hs : (l.mergeSort fun x y => decide (x ≤ y)).Pairwise (fun x y => decide (x ≤ y) = true) := List.pairwise_mergeSort (fun a b c h1 h2 => by simp at *; omega) (fun a b => by simp; omega) l
  have hn' : (l.mergeSort fun x y => decide (x ≤ y)).Nodup := hp.nodup_iff.2 hn
  refine sorted_ext _ _ ?_ (theL_sorted p) (fun x => by rw [hp.mem_iff]; exact hm x)
  have := hs.and hn'
  refine this.imp fun h => ?_
  obtain ⟨h1, h2⟩ := h
  simp at h1
  omega
/-- A slice of ints over a row of its own, no older than B. -/
def OwnI (B : Nat) (l : List Int) (v : Value) (w : World) : Prop := w.ownsRow B 3 1 v l.length (l.map I64)
theorem OwnI.shape {B : Nat} {l : List Int} {v : Value} {w : World} (h : OwnI B l v w) : ∃ a cap, v = .slice a l.length cap := by
  obtain ⟨a, cap, e, _⟩ := SliceAt.owned h
  exact ⟨a, cap, e⟩
theorem info3 : ∃ i z, Try.prog.info? 3 = some i ∧ i.zero = some z ∧ i.size = 1 ∧ i.bytes = 8 ∧ z.cells.size = 1 := ⟨_, _, rfl, rfl, rfl, rfl, rfl⟩
theorem Fr.of_belowB {B : Nat} {w w' : World} (h : Below B w w') : Fr (fun k => B ≤ k) w w' := ⟨h.os, h.tape, h.output, h.size, fun k _ hn => h.block k (by omega)⟩
theorem sort_own (w : World) (B : Nat) (v : Value) (l : List Int) (h : OwnI B l v w) (hl : l.length ≤ 100000) (hB : B ≤ w.heap.size) :
    Calls Try.prog 39 #[v] w fun e w' => e = .returned (.tuple #[]) ∧ OwnI B (l.mergeSort fun x y => decide (x ≤ y)) v w' ∧ Below B w w' := by
  rcases h.2 with ⟨rfl, h0⟩ | ⟨g, cap, cur, rfl, hg, hb, h1, h2, h3, h4⟩
  · refine (Try.slices_Sort_int_none none 0 w).mono fun e w' ⟨he, hw⟩ => ⟨he, ?_, hw ▸ Below.refl _ _⟩
    obtain rfl : l = [] := List.eq_nil_of_length_eq_zero h0
    rw [hw, List.mergeSort_nil]
    exact h
  · have hlt : g < w.heap.size := (Array.getElem?_eq_some_iff.1 hb).1
    refine (Try.slices_Sort_int g 0 cap l w (holds_of_blockI hb (by rw [Nat.mul_one] at h4; exact h4)) hlt (by omega)).mono fun e w' ⟨he, n, os, hw⟩ => ⟨he, ?_, ?_⟩
    · rw [hw]
      unfold OwnI
      rw [List.length_mergeSort]
      exact ownsRow_sortedI (by rw [List.length_mergeSort]) hg hb h1 h2 h3
    · rw [hw]
      exact (Below.refl _ _).grown (grownBy_sortedI _) hB (fun k hk => by cases hk; exact hg)
/-- What has been collected of the keys seen. -/
def coll (f : Int → Nat) (p : Nat → Bool) (seen : List Int) : List Int := seen.reverse.filter fun k => p (f k)
theorem coll_yes {f : Int → Nat} {p : Nat → Bool} {seen : List Int} {k : Int} (h : p (f k) = true) : coll f p (k :: seen) = coll f p seen ++ [k] := by simp [coll, h]
theorem coll_no {f : Int → Nat} {p : Nat → Bool} {seen : List Int} {k : Int} (h : p (f k) = false) : coll f p (k :: seen) = coll f p seen := by simp [coll, h]
theorem nodup_le : ∀ (l l' : List Int), l.Nodup → l ⊆ l' → l.length ≤ l'.length
  | [], _, _, _ => Nat.zero_le _
  | x :: l, l', h1, h2 => by
    obtain ⟨a1, a2⟩ := List.nodup_cons.1 h1
    have hx : x ∈ l' := h2 (List.mem_cons_self ..)
    have := nodup_le l (l'.erase x) a2 (fun y hy => (List.mem_erase_of_ne (fun e => a1 (by rw [← e]; exact hy))).2 (h2 (List.mem_cons_of_mem _ hy)))
    rw [List.length_erase_of_mem hx] at this
    have : 0 < l'.length := List.length_pos_of_mem hx
    simp only [List.length_cons]
    omega
theorem nodup_len {f : Int → Nat} (hv : Vm f) {seen : List Int} (hn : seen.Nodup) (hs : ∀ k ∈ seen, f k ≠ 0) : seen.length ≤ 8192 := by
  have hsub : seen ⊆ (List.range 8192).map (fun n : Nat => (n : Int)) := fun k hk => by
    have := hv.dom k (hs k hk)
    rw [List.mem_map]
    exact ⟨k.toNat, by rw [List.mem_range]; omega, by omega⟩
  have := nodup_le _ _ hn hsub
  simpa using this
theorem coll_len {f : Int → Nat} (hv : Vm f) (p : Nat → Bool) {seen : List Int} (hn : seen.Nodup) (hs : ∀ k ∈ seen, f k ≠ 0) : (coll f p seen).length ≤ 8192 := by
  unfold coll
  refine Nat.le_trans (List.length_filter_le _ _) ?_
  rw [List.length_reverse]
  exact nodup_len hv hn hs
theorem coll_end {f : Int → Nat} (hv : Vm f) {p : Nat → Bool} (hp : p 0 = false) {seen : List Int} (hn : seen.Nodup) (hs : ∀ k, f k ≠ 0 ↔ k ∈ seen) :
    (coll f p seen).mergeSort (fun x y => decide (x ≤ y)) = theL fun k => p (f k) := by
  refine sort_theL ?_ fun x => ?_
  · unfold coll
    exact List.Pairwise.filter _ (List.pairwise_reverse.2 (hn.imp Ne.symm))
  · rw [mem_theL]
    unfold coll
    rw [List.mem_filter, List.mem_reverse, ← hs x]
    constructor
    · rintro ⟨h1, h2⟩
      have := hv.dom x h1
      exact ⟨by omega, by omega, h2⟩
    · rintro ⟨_, _, h3⟩
      refine ⟨fun h => ?_, h3⟩
      rw [h, hp] at h3
      cases h3
section
variable {P : Program} {w w' : World} {ops : Array Oper} {rest : List Oper} {o : Oper} {a : Act} {Q : Exit → Act → World → Prop} {r b : Nat} {f : Int → Nat} {seen : List Int}
theorem dt_next (hg : o.guard = none) (it : Operand) (hop : o.op = Op.next it false) (hit : a.eval it = .pointer (some ⟨r, 0, none⟩)) (h : IterAt w r b (mapOf f) seen)
    (hDone : (∀ k, f k ≠ 0 → k ∈ seen) → wpList P ops Q rest (a.put o.dst (.tuple #[.bool false])) w)
    (hMore : ∀ (k : Int) (w' : World), Hid (f k ≠ 0 ∧ k ∉ seen) → Hid (IterAt w' r b (mapOf f) (k :: seen)) → Hid (Fr (· = r) w w') → Hid (w'.heap.size = w.heap.size) → Hid (w'.rangeLeft b r < w.rangeLeft b r) →
      (Instr.entry (.pointer (some ⟨r, 0, none⟩))).run P w' = .ok (.tuple #[.int .i64 k, .int .u8 (f k)]) w' → wpList P ops Q rest (a.put o.dst (.tuple #[.bool true, .int .i64 k, .int .u8 (f k)])) w') : wpList P ops Q (o :: rest) a w := by
  refine wpList_next hg it hop hit h (fun hd => hDone fun k hk => hd k (.int .u8 (f k)) ?_) fun k v w' h1 h2 h3 h4 h5 h6 h7 => ?_
  · unfold mapOf; rw [if_neg hk]
  · unfold mapOf at h1
    split at h1
    · cases h1
    · rename_i hk
      cases h1
      exact hMore k w' (Lib.hid ⟨hk, h2⟩) (Lib.hid h3) (Lib.hid h4) (Lib.hid h5) (Lib.hid h6) h7
end
def ThI (w : World) (t b : Nat) (f : Int → Nat) (p : Nat → Bool) (X : World → Prop) (l : Value) (W : World) : Prop := ∃ seen, seen.Nodup ∧ (∀ k ∈ seen, f k ≠ 0) ∧ IterAt W w.heap.size b (mapOf f) seen ∧ DT W t b f ∧ OwnI (w.heap.size + 1) (coll f p seen) l W ∧ Below w.heap.size w W ∧ X W ∧ w.heap.size + 1 ≤ W.heap.size
def pAll (m : Nat) : Bool := decide (m ≠ 0)
def pOf (a m : Nat) : Bool := m.testBit a
theorem all1_any (w : World) (m : Nat) : Calls Try.prog 23 #[.int .u8 m] w fun e w' => e = .returned (.bool (pAll m)) ∧ w' = w := by
  unfold pAll
  have hne : ((m : Int) != 0) = decide (m ≠ 0) := by rw [Bool.eq_iff_iff]; simp
  obtain ⟨z, hz⟩ : ∃ z, z = decide (m ≠ 0) := ⟨_, rfl⟩
  rw [← hz] at hne ⊢
  clear hz
  go_enter Try.func23, Try.ntmps23
  go_wp2
  all_goals refine bodyPost_ret (by simp [results, Try.results23, go_sem]; rfl) rfl ?_
  all_goals exact ⟨rfl, rfl⟩
theorem of1_any (w : World) (m a x : Nat) (hm : m < 128) (ha : a < 7) (hx : RowAt w x 3 [.int .i64 a]) : Calls Try.prog 30 #[.int .u8 m, .pointer (some ⟨x, 0, none⟩)] w fun e w' => e = .returned (.bool (pOf a m)) ∧ w' = w := by
  unfold pOf
  have c0 : w.cell? ⟨x, 0, none⟩ = some (.int .i64 a) := hx.cell 0
  clear hx
  have HH := Lib.hid (has_any w m a hm ha)
  go_enter Try.func30, Try.ntmps30
  go_wp2_with fail
  refine HH.out.mono ?_
  rintro e w' ⟨rfl, hw⟩
  rw [hw]
  clear hw w'
  go_wp2_with fail
  all_goals refine bodyPost_ret (by simp [results, Try.results30, go_sem]; rfl) rfl ?_
  all_goals exact ⟨rfl, rfl⟩
theorem own_fr {M : Nat → Prop} {B : Nat} {l : List Int} {v : Value} {w w' : World} (h : OwnI B l v w) (hf : Fr M w w') (hm : ∀ k, M k → k < B) : OwnI B l v w' := by
  rcases h.2 with ⟨e, h0⟩ | ⟨g, cap, cur, e, hg, hb, h1⟩
  · exact ⟨h.1, .inl ⟨e, h0⟩⟩
  · refine ⟨h.1, .inr ⟨g, cap, cur, e, hg, ?_, h1⟩⟩
    rw [hf.block g (Array.getElem?_eq_some_iff.1 hb).1 (fun x => by have := hm g x; omega)]
    exact hb
set_option maxHeartbeats 2000000 in
theorem those_all (w : World) (t b : Nat) (f : Int → Nat) (h : DT w t b f) :
    Calls Try.prog 22 #[.pointer (some ⟨t, 0, none⟩), .func (.func 23) #[] #[]] w fun e w' => ∃ v, e = .returned v ∧ OwnI (w.heap.size + 1) (theL fun k => pAll (f k)) v w' ∧ Below w.heap.size w w' := by
  have c0 := h.c0
  have HD := Lib.hid h
  clear h
  go_enter Try.func22, Try.ntmps22
  go_wp2_with (at_range; refine wpList_range rfl (.tmp 11) rfl rfl HD.out.map Try.underlying48 fun w1 hi hb hz => ?_)
  simp only [Act.put, List.setIfInBounds_toArray, List.set_cons_succ, List.set_cons_zero]
  have HI := Lib.hid hi
  have HD1 := Lib.hid (HD.out.next hb)
  have HB := Lib.hid hb
  have HX : Hid ((fun _ => True) w1) := Lib.hid (trivial)
  have HZ : Hid (w.heap.size + 1 ≤ w1.heap.size) := Lib.hid (by omega)
  clear hi hb hz c0
  obtain ⟨r, hr⟩ : ∃ r, r = w.heap.size := ⟨_, rfl⟩
  rw [← hr]
  have HR := Lib.hid hr
  clear hr
  go_loopw [5] (fun l wr => ThI w t b f pAll (fun _ => True) l wr) (fun _ wr => wr.rangeLeft b r)
  case atStart => exact ⟨[], List.nodup_nil, by simp, HI.out, HD1.out, World.ownsRow_nil _ _ _ _, HB.out, HX.out, HZ.out⟩
  case round =>
    obtain ⟨seen, hn, hs, hi, hd, ho, hb, hx, hz⟩ := hrel
    rw [← HR.out] at hi
    clear HI HD1 HB HX HZ
    have HN := Lib.hid hn
    have HS := Lib.hid hs
    have HI := Lib.hid hi
    have HD1 := Lib.hid hd
    have HO := Lib.hid ho
    have HB := Lib.hid hb
    have HX := Lib.hid hx
    have HZ := Lib.hid hz
    clear hn hs hi hd ho hb hx hz
    have c0 := HD1.out.c0
    go_wp2_with (at_next; refine dt_next rfl (.tmp 12) rfl rfl HI.out (fun hd => ?_) (fun k w2 hk hit hfr hsz hlt hen => ?_))
    · have HE : Hid (∀ k, f k ≠ 0 ↔ k ∈ seen) := Lib.hid (fun k => ⟨hd k, HS.out k⟩)
      clear hd
      refine (sort_own wr _ u5 _ HO.out (by have := coll_len HD.out.vm pAll HN.out HS.out; omega) HZ.out).mono ?_
      rintro e w3 ⟨rfl, ho, hb⟩
      rw [coll_end HD.out.vm (by simp [pAll]) HN.out HE.out] at ho
      have HO3 := Lib.hid ho
      have HB3 := Lib.hid (HB.out.trans (hb.mono (by omega)))
      clear ho hb
      go_wp2_with fail
      all_goals refine bodyPost_ret (by simp [results, Try.results22, go_sem]; rfl) rfl ?_
      all_goals exact ⟨_, rfl, HO3.out, HB3.out⟩
    · have HK : Hid (f k < 128) := Lib.hid (HD.out.vm.lt k)
      have HX2 : Hid ((fun _ => True) w2) := Lib.hid (trivial)
      refine (all1_any w2 (f k)).mono ?_
      rintro e w' ⟨rfl, hw⟩
      rw [hw]
      clear hw w'
      have HD2 : Hid (DT w2 t b f) := Lib.hid (HD1.out.fr hfr.out (by have := HD.out.lt; have := HR.out; omega) (by have := HD.out.lt; have := HR.out; omega))
      have HB2 : Hid (Below w.heap.size w w2) := Lib.hid (HB.out.trans (Fr.below hfr.out HB.out.size (fun _ e => by have := HR.out; omega)))
      have HO2 : Hid (OwnI (w.heap.size + 1) (coll f pAll seen) u5 w2) := Lib.hid (own_fr HO.out hfr.out (by have := HR.out; omega))
      have HZ2 : Hid (w.heap.size + 1 ≤ w2.heap.size) := Lib.hid (by rw [hsz.out]; exact HZ.out)
      have HN2 : Hid ((k :: seen).Nodup) := Lib.hid (List.nodup_cons.2 ⟨hk.out.2, HN.out⟩)
      have HS2 : Hid (∀ x ∈ k :: seen, f x ≠ 0) := Lib.hid (fun x hx => by
        rcases List.mem_cons.1 hx with rfl | hx
        · exact hk.out.1
        · exact HS.out x hx)
      cases hp : pAll (f k) with
      | false =>
        have HC : Hid (coll f pAll (k :: seen) = coll f pAll seen) := Lib.hid (coll_no hp)
        clear hp hen c0
        go_wp2_with fail
        go_roundw
        case rel => exact ⟨k :: seen, HN2.out, HS2.out, by rw [← HR.out]; exact hit.out, HD2.out, by rw [HC.out]; exact HO2.out, HB2.out, HX2.out, HZ2.out⟩
        case measure => exact hlt.out
      | true =>
        have HC : Hid (coll f pAll (k :: seen) = coll f pAll seen ++ [k]) := Lib.hid (coll_yes hp)
        have HL : Hid ((coll f pAll seen).length ≤ 8192) := Lib.hid (coll_len HD.out.vm pAll HN.out HS.out)
        clear hp hen c0
        have hnew : RowAt (w2.alloc (.cells #[.int .i64 k] 3)) w2.heap.size 3 [.int .i64 k] := RowAt.new w2 3 _
        obtain ⟨i, z, e1, e2, e3, e4, e5⟩ := info3
        obtain ⟨v', w', hrun, ho', hg', _, hb'⟩ := run_app (P := Try.prog) (w2.alloc (.cells #[.int .i64 k] 3)) (w.heap.size + 1) 26 26 3 i z 8 Try.underlying26 e1 e2 e3 e4 e5 u5 (coll f pAll seen).length _ (HO2.out.alloc _) (some ⟨w2.heap.size, 0, none⟩) 1 1 [.int .i64 k] (SliceAt.row hnew) (fun h => by cases h) (fun u hu => by simp at hu; subst hu; rfl) (by have := HL.out; unfold maxLen; omega) (by have := HL.out; omega) (by have := HZ2.out; simp; omega)
        have hal : Below w2.heap.size w2 (w2.alloc (.cells #[.int .i64 k] 3)) := (Below.refl _ _).alloc (Nat.le_refl _) _
        have hfb : Fr (fun j => w.heap.size + 1 ≤ j) w2 w' := (Fr.of_below hal).trans (Fr.of_belowB hb')
        have HRUN := Lib.hid hrun
        have HO3 : Hid (OwnI (w.heap.size + 1) (coll f pAll (k :: seen)) v' w') := Lib.hid (by
          rw [HC.out]
          unfold OwnI
          rw [List.length_append, List.map_append]
          exact ho')
        have HD3 : Hid (DT w' t b f) := Lib.hid (HD2.out.fr hfb (by have := HD.out.lt; omega) (by have := HD.out.lt; omega))
        have HI3 : Hid (IterAt w' r b (mapOf f) (k :: seen)) := Lib.hid (hit.out.fr hfb (by have := HD.out.lt; omega) (by have := HR.out; omega))
        have HB3 : Hid (Below w.heap.size w w') := Lib.hid (HB2.out.trans (Fr.below hfb HB2.out.size (fun _ e => by omega)))
        have HX3 : Hid ((fun _ => True) w') := Lib.hid (trivial)
        have HZ3 : Hid (w.heap.size + 1 ≤ w'.heap.size) := Lib.hid (by have := HZ2.out; have := hfb.size; omega)
        have HM3 : Hid (w'.rangeLeft b r < wr.rangeLeft b r) := Lib.hid (by
          have e : w'.rangeLeft b r = w2.rangeLeft b r := by
            unfold World.rangeLeft
            rw [hfb.block b (by have := HD2.out.lt; omega) (by have := HD.out.lt; omega), hfb.block r (by have := HZ2.out; have := HR.out; omega) (by have := HR.out; omega)]
          rw [e]
          exact hlt.out)
        clear hnew hrun ho' hg' hb' e1 e2 e3 e4 e5 hal hfb
        go_wp2_with (at_builtin; refine wpList_app rfl (.tmp 21) (.tmp 23) 26 26 rfl rfl HRUN.out rfl rfl ?_)
        go_roundw
        case rel => exact ⟨k :: seen, HN2.out, HS2.out, by rw [← HR.out]; exact HI3.out, HD3.out, HO3.out, HB3.out, HX3.out, HZ3.out⟩
        case measure => exact HM3.out
set_option maxHeartbeats 2000000 in
theorem those_of (w : World) (t b : Nat) (f : Int → Nat) (h : DT w t b f) (a x : Nat) (ha : a < 7) (hxr : RowAt w x 3 [.int .i64 a]) :
    Calls Try.prog 22 #[.pointer (some ⟨t, 0, none⟩), .func (.func 30) #[] #[.pointer (some ⟨x, 0, none⟩)]] w fun e w' => ∃ v, e = .returned v ∧ OwnI (w.heap.size + 1) (theL fun k => (pOf a) (f k)) v w' ∧ Below w.heap.size w w' := by
  have c0 := h.c0
  have HD := Lib.hid h
  have HXR := Lib.hid hxr
  have HXL : Hid (x < w.heap.size) := Lib.hid hxr.lt
  clear h hxr
  go_enter Try.func22, Try.ntmps22
  go_wp2_with (at_range; refine wpList_range rfl (.tmp 11) rfl rfl HD.out.map Try.underlying48 fun w1 hi hb hz => ?_)
  simp only [Act.put, List.setIfInBounds_toArray, List.set_cons_succ, List.set_cons_zero]
  have HI := Lib.hid hi
  have HD1 := Lib.hid (HD.out.next hb)
  have HB := Lib.hid hb
  have HX : Hid ((fun W => RowAt W x 3 [.int .i64 a]) w1) := Lib.hid (HXR.out.next hb)
  have HZ : Hid (w.heap.size + 1 ≤ w1.heap.size) := Lib.hid (by omega)
  clear hi hb hz c0
  obtain ⟨r, hr⟩ : ∃ r, r = w.heap.size := ⟨_, rfl⟩
  rw [← hr]
  have HR := Lib.hid hr
  clear hr
  go_loopw [5] (fun l wr => ThI w t b f (pOf a) (fun W => RowAt W x 3 [.int .i64 a]) l wr) (fun _ wr => wr.rangeLeft b r)
  case atStart => exact ⟨[], List.nodup_nil, by simp, HI.out, HD1.out, World.ownsRow_nil _ _ _ _, HB.out, HX.out, HZ.out⟩
  case round =>
    obtain ⟨seen, hn, hs, hi, hd, ho, hb, hx, hz⟩ := hrel
    rw [← HR.out] at hi
    clear HI HD1 HB HX HZ
    have HN := Lib.hid hn
    have HS := Lib.hid hs
    have HI := Lib.hid hi
    have HD1 := Lib.hid hd
    have HO := Lib.hid ho
    have HB := Lib.hid hb
    have HX := Lib.hid hx
    have HZ := Lib.hid hz
    clear hn hs hi hd ho hb hx hz
    have c0 := HD1.out.c0
    go_wp2_with (at_next; refine dt_next rfl (.tmp 12) rfl rfl HI.out (fun hd => ?_) (fun k w2 hk hit hfr hsz hlt hen => ?_))
    · have HE : Hid (∀ k, f k ≠ 0 ↔ k ∈ seen) := Lib.hid (fun k => ⟨hd k, HS.out k⟩)
      clear hd
      refine (sort_own wr _ u5 _ HO.out (by have := coll_len HD.out.vm (pOf a) HN.out HS.out; omega) HZ.out).mono ?_
      rintro e w3 ⟨rfl, ho, hb⟩
      rw [coll_end HD.out.vm (by simp [pOf]) HN.out HE.out] at ho
      have HO3 := Lib.hid ho
      have HB3 := Lib.hid (HB.out.trans (hb.mono (by omega)))
      clear ho hb
      go_wp2_with fail
      all_goals refine bodyPost_ret (by simp [results, Try.results22, go_sem]; rfl) rfl ?_
      all_goals exact ⟨_, rfl, HO3.out, HB3.out⟩
    · have HK : Hid (f k < 128) := Lib.hid (HD.out.vm.lt k)
      have HX2 : Hid ((fun W => RowAt W x 3 [.int .i64 a]) w2) := Lib.hid (HX.out.fr hfr.out (fun e => by have := HXL.out; have := HR.out; omega))
      refine (of1_any w2 (f k) a x HK.out ha HX2.out).mono ?_
      rintro e w' ⟨rfl, hw⟩
      rw [hw]
      clear hw w'
      have HD2 : Hid (DT w2 t b f) := Lib.hid (HD1.out.fr hfr.out (by have := HD.out.lt; have := HR.out; omega) (by have := HD.out.lt; have := HR.out; omega))
      have HB2 : Hid (Below w.heap.size w w2) := Lib.hid (HB.out.trans (Fr.below hfr.out HB.out.size (fun _ e => by have := HR.out; omega)))
      have HO2 : Hid (OwnI (w.heap.size + 1) (coll f (pOf a) seen) u5 w2) := Lib.hid (own_fr HO.out hfr.out (by have := HR.out; omega))
      have HZ2 : Hid (w.heap.size + 1 ≤ w2.heap.size) := Lib.hid (by rw [hsz.out]; exact HZ.out)
      have HN2 : Hid ((k :: seen).Nodup) := Lib.hid (List.nodup_cons.2 ⟨hk.out.2, HN.out⟩)
      have HS2 : Hid (∀ x ∈ k :: seen, f x ≠ 0) := Lib.hid (fun x hx => by
        rcases List.mem_cons.1 hx with rfl | hx
        · exact hk.out.1
        · exact HS.out x hx)
      cases hp : (pOf a) (f k) with
      | false =>
        have HC : Hid (coll f (pOf a) (k :: seen) = coll f (pOf a) seen) := Lib.hid (coll_no hp)
        clear hp hen c0
        go_wp2_with fail
        go_roundw
        case rel => exact ⟨k :: seen, HN2.out, HS2.out, by rw [← HR.out]; exact hit.out, HD2.out, by rw [HC.out]; exact HO2.out, HB2.out, HX2.out, HZ2.out⟩
        case measure => exact hlt.out
      | true =>
        have HC : Hid (coll f (pOf a) (k :: seen) = coll f (pOf a) seen ++ [k]) := Lib.hid (coll_yes hp)
        have HL : Hid ((coll f (pOf a) seen).length ≤ 8192) := Lib.hid (coll_len HD.out.vm (pOf a) HN.out HS.out)
        clear hp hen c0
        have hnew : RowAt (w2.alloc (.cells #[.int .i64 k] 3)) w2.heap.size 3 [.int .i64 k] := RowAt.new w2 3 _
        obtain ⟨i, z, e1, e2, e3, e4, e5⟩ := info3
        obtain ⟨v', w', hrun, ho', hg', _, hb'⟩ := run_app (P := Try.prog) (w2.alloc (.cells #[.int .i64 k] 3)) (w.heap.size + 1) 26 26 3 i z 8 Try.underlying26 e1 e2 e3 e4 e5 u5 (coll f (pOf a) seen).length _ (HO2.out.alloc _) (some ⟨w2.heap.size, 0, none⟩) 1 1 [.int .i64 k] (SliceAt.row hnew) (fun h => by cases h) (fun u hu => by simp at hu; subst hu; rfl) (by have := HL.out; unfold maxLen; omega) (by have := HL.out; omega) (by have := HZ2.out; simp; omega)
        have hal : Below w2.heap.size w2 (w2.alloc (.cells #[.int .i64 k] 3)) := (Below.refl _ _).alloc (Nat.le_refl _) _
        have hfb : Fr (fun j => w.heap.size + 1 ≤ j) w2 w' := (Fr.of_below hal).trans (Fr.of_belowB hb')
        have HRUN := Lib.hid hrun
        have HO3 : Hid (OwnI (w.heap.size + 1) (coll f (pOf a) (k :: seen)) v' w') := Lib.hid (by
          rw [HC.out]
          unfold OwnI
          rw [List.length_append, List.map_append]
          exact ho')
        have HD3 : Hid (DT w' t b f) := Lib.hid (HD2.out.fr hfb (by have := HD.out.lt; omega) (by have := HD.out.lt; omega))
        have HI3 : Hid (IterAt w' r b (mapOf f) (k :: seen)) := Lib.hid (hit.out.fr hfb (by have := HD.out.lt; omega) (by have := HR.out; omega))
        have HB3 : Hid (Below w.heap.size w w') := Lib.hid (HB2.out.trans (Fr.below hfb HB2.out.size (fun _ e => by omega)))
        have HX3 : Hid ((fun W => RowAt W x 3 [.int .i64 a]) w') := Lib.hid (HX2.out.fr hfb (fun e => by have := HXL.out; have := HR.out; omega))
        have HZ3 : Hid (w.heap.size + 1 ≤ w'.heap.size) := Lib.hid (by have := HZ2.out; have := hfb.size; omega)
        have HM3 : Hid (w'.rangeLeft b r < wr.rangeLeft b r) := Lib.hid (by
          have e : w'.rangeLeft b r = w2.rangeLeft b r := by
            unfold World.rangeLeft
            rw [hfb.block b (by have := HD2.out.lt; omega) (by have := HD.out.lt; omega), hfb.block r (by have := HZ2.out; have := HR.out; omega) (by have := HR.out; omega)]
          rw [e]
          exact hlt.out)
        clear hnew hrun ho' hg' hb' e1 e2 e3 e4 e5 hal hfb
        go_wp2_with (at_builtin; refine wpList_app rfl (.tmp 21) (.tmp 23) 26 26 rfl rfl HRUN.out rfl rfl ?_)
        go_roundw
        case rel => exact ⟨k :: seen, HN2.out, HS2.out, by rw [← HR.out]; exact HI3.out, HD3.out, HO3.out, HB3.out, HX3.out, HZ3.out⟩
        case measure => exact HM3.out
end Go.Proofs.Ytaokogeblpjabaa
