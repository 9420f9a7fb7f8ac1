/- Who. -/
import Derived.Test.YtkcebbidmlnmmaaDoorXh
import Derived.Test.YtkcebbidmlnmmaaDoorWl
import Derived.Deep.CutBlock
import Derived.Deep.CutRange
import Derived.Deep.DeepCutAuto
namespace Go.Proofs.YtkcebbidmlnmmaaDoor
open Go.RowKit
section
variable {P : Program} {w w' : World} {ops : Array Oper} {rest : List Oper} {o : Oper} {a : Act} {Q : Exit → Act → World → Prop} {r b : Nat} {f : Int → Option Value} {seen : List Int}
theorem hid_next (hg : o.guard = none) (it : Operand) (hop : o.op = Op.next it false) (hit : a.eval it = .pointer (some ⟨r, 0, none⟩)) (h : IterAt w r b f seen)
    (hDone : (∀ k v, f k = some v → k ∈ seen) → wpList P ops Q rest (a.put o.dst (.tuple #[.bool false])) w)
    (hMore : ∀ (k : Int) (v : Value) (w' : World), Hid (f k = some v ∧ k ∉ seen) → Hid (IterAt w' r b f (k :: seen)) → Hid (Fr (· = r) w w') → Hid (w'.heap.size = w.heap.size) → Hid (w'.rangeLeft b r < w.rangeLeft b r) →
      (Instr.entry (.pointer (some ⟨r, 0, none⟩))).run P w' = .ok (.tuple #[.int .i64 k, v]) w' → wpList P ops Q rest (a.put o.dst (.tuple #[.bool true, .int .i64 k, v])) w') : wpList P ops Q (o :: rest) a w :=
  wpList_next hg it hop hit h hDone fun k v w' h1 h2 h3 h4 h5 h6 h7 => hMore k v w' (Lib.hid ⟨h1, h2⟩) (Lib.hid h3) (Lib.hid h4) (Lib.hid h5) (Lib.hid h6) h7
end
theorem sub_ne {k : Int} {L : List Wr} : sub k L ≠ [] ↔ k ∈ keysL L := by
  unfold sub keysL
  constructor
  · intro h
    obtain ⟨p, hp⟩ := List.exists_mem_of_ne_nil _ h
    obtain ⟨q, hq, _⟩ := List.mem_map.1 hp
    obtain ⟨h1, h2⟩ := List.mem_filter.1 hq
    exact List.mem_map.2 ⟨q, h1, by simpa using h2⟩
  · intro h e
    obtain ⟨q, hq, rfl⟩ := List.mem_map.1 h
    have : q.2 ∈ (L.filter fun p => p.1 == q.1).map (·.2) := List.mem_map.2 ⟨q, List.mem_filter.2 ⟨hq, by simp⟩, rfl⟩
    rw [e] at this
    simp at this
def WhI (w : World) (b : Nat) (F : Int → Option Value) (v : Value) (W : World) : Prop :=
  ∃ seen, seen.Nodup ∧ (∀ k ∈ seen, F k ≠ none) ∧ IterAt W w.heap.size b F seen ∧ OwnI (w.heap.size + 1) seen.reverse v W ∧ Below w.heap.size w W ∧ w.heap.size + 1 ≤ W.heap.size
set_option maxRecDepth 20000 in
set_option maxHeartbeats 2000000 in
theorem who_map (w : World) (p b : Nat) (n : Int) (F : Int → Option Value) (l : List Int) (hr : RowAt w p 61 [.map (some b), .int .i64 n]) (hF : MapAt w b F) (hk : ∀ k, F k ≠ none ↔ k ∈ l) (hl : l.length ≤ 65536) :
    Calls Tryd.prog 23 #[.pointer (some ⟨p, 0, none⟩)] w fun e w' => ∃ O v, e = .returned v ∧ OwnI w.heap.size O v w' ∧ So2 O l ∧ Below w.heap.size w w' := by
  have c0 := hr.cell 0
  simp only [List.getElem?_cons_zero] at c0
  have HF := Lib.hid hF
  have HK := Lib.hid hk
  have HPL := Lib.hid hr.lt
  clear hr hF hk
  go_enter Tryd.func23, Tryd.ntmps23
  go_wp2_with (at_range; refine wpList_range rfl (.tmp 10) rfl rfl HF.out Tryd.underlying59 fun w1 hi hb hz => ?_)
  simp only [Act.put, List.setIfInBounds_toArray, List.set_cons_succ, List.set_cons_zero]
  have HI := Lib.hid hi
  have HB := Lib.hid hb
  have HZ : Hid (w.heap.size + 1 ≤ w1.heap.size) := Lib.hid (by omega)
  clear hi hb hz c0
  obtain ⟨r, hr⟩ : ∃ r, r = w.heap.size := ⟨_, rfl⟩
  rw [← hr]
  have HR := Lib.hid hr
  clear hr
  go_loopw [3] (fun l wr => WhI w b F l wr) (fun _ wr => wr.rangeLeft b r)
  case atStart => exact ⟨[], List.nodup_nil, by simp, HI.out, World.ownsRow_nil _ _ _ _, HB.out, HZ.out⟩
  case round =>
    obtain ⟨seen, hn, hs, hi, ho, hb, hz⟩ := hrel
    rw [← HR.out] at hi
    clear HI HB HZ
    have HN := Lib.hid hn
    have HS := Lib.hid hs
    have HI := Lib.hid hi
    have HO := Lib.hid ho
    have HB := Lib.hid hb
    have HZ := Lib.hid hz
    have HLE : Hid (seen.length ≤ 65536) := Lib.hid (Nat.le_trans (nodup_le seen l hn (fun x hx => (HK.out x).1 (hs x hx))) hl)
    clear hn hs hi ho hb hz
    go_upto_region 7 with (at_next; refine hid_next rfl (.tmp 11) rfl rfl HI.out (fun hd => ?_) (fun k v w2 hk hit hfr hsz hlt hen => ?_))
    · have HE : Hid (So2 (seen.reverse.mergeSort fun x y => decide (x ≤ y)) l) := Lib.hid (by
        refine so2_sort (List.pairwise_reverse.2 (HN.out.imp Ne.symm)) (fun x => ?_)
        rw [List.mem_reverse, ← HK.out x]
        refine ⟨HS.out x, fun h => ?_⟩
        cases e : F x with
        | none => exact absurd e h
        | some u => exact hd x u e)
      clear hd
      go_wp2_with fail
      refine (sort_own wr _ u3 _ HO.out (by rw [List.length_reverse]; have := HLE.out; omega) HZ.out).mono ?_
      rintro e w3 ⟨rfl, ho, hb⟩
      have HO3 := Lib.hid (ho.mono (Nat.le_succ _))
      have HB3 := Lib.hid (HB.out.trans (hb.mono (by omega)))
      clear ho hb
      go_wp2_with fail
      all_goals refine bodyPost_ret (by simp [results, Tryd.results23, go_sem]; rfl) rfl ?_
      all_goals exact ⟨_, _, rfl, HO3.out, HE.out, HB3.out⟩
    · have HB2 : Hid (Below w.heap.size w w2) := Lib.hid (HB.out.trans (Fr.below hfr.out HB.out.size (fun _ e => by have := HR.out; omega)))
      have HO2 : Hid (OwnI (w.heap.size + 1) seen.reverse u3 w2) := Lib.hid (ownI_fr HO.out hfr.out (by have := HR.out; omega))
      have HZ2 : Hid (w.heap.size + 1 ≤ w2.heap.size) := Lib.hid (by rw [hsz.out]; exact HZ.out)
      have HN2 : Hid ((k :: seen).Nodup) := Lib.hid (List.nodup_cons.2 ⟨hk.out.2, HN.out⟩)
      have HS2 : Hid (∀ x ∈ k :: seen, F x ≠ none) := Lib.hid (fun x hx => by
        rcases List.mem_cons.1 hx with rfl | hx
        · rw [hk.out.1]; simp
        · exact HS.out x hx)
      have hnew : RowAt (w2.alloc (.cells #[.int .i64 k] 3)) w2.heap.size 3 [.int .i64 k] := RowAt.new w2 3 _
      obtain ⟨i, z, e1, e2, e3, e4, e5⟩ := info3
      obtain ⟨v', w', hrun, ho', hg', _, hb'⟩ := run_app (P := Tryd.prog) (w2.alloc (.cells #[.int .i64 k] 3)) (w.heap.size + 1) 51 51 3 i z 8 Tryd.underlying51 e1 e2 e3 e4 e5 u3 seen.reverse.length _ (HO2.out.alloc _) (some ⟨w2.heap.size, 0, none⟩) 1 1 [.int .i64 k] (SliceAt.row hnew) (fun h => by cases h) (fun u hu => by simp at hu; subst hu; rfl) (by rw [List.length_reverse]; have := HLE.out; unfold maxLen; omega) (by rw [List.length_reverse]; have := HLE.out; omega) (by have := HZ2.out; simp; omega)
      have hal : Below w2.heap.size w2 (w2.alloc (.cells #[.int .i64 k] 3)) := (Below.refl _ _).alloc (Nat.le_refl _) _
      have hfb : Fr (fun j => w.heap.size + 1 ≤ j) w2 w' := (Fr.of_below hal).trans (Fr.of_belowB hb')
      have HRUN := Lib.hid hrun
      have HO3 : Hid (OwnI (w.heap.size + 1) (k :: seen).reverse v' w') := Lib.hid (by
        unfold OwnI
        rw [List.reverse_cons, List.length_append, List.map_append]
        exact ho')
      have HI3 : Hid (IterAt w' r b F (k :: seen)) := Lib.hid (hit.out.fr hfb (by have := HF.out.lt; omega) (by have := HR.out; omega))
      have HB3 : Hid (Below w.heap.size w w') := Lib.hid (HB2.out.trans (Fr.below hfb HB2.out.size (fun _ e => by omega)))
      have HZ3 : Hid (w.heap.size + 1 ≤ w'.heap.size) := Lib.hid (by have := HZ2.out; have := hfb.size; omega)
      have HM3 : Hid (w'.rangeLeft b r < wr.rangeLeft b r) := Lib.hid (by
        have e : w'.rangeLeft b r = w2.rangeLeft b r := by
          unfold World.rangeLeft
          rw [hfb.block b (by have := hit.out.map.lt; omega) (by have := HF.out.lt; omega), hfb.block r (by have := HZ2.out; have := HR.out; omega) (by have := HR.out; omega)]
        rw [e]
        exact hlt.out)
      clear hnew hrun ho' hg' hb' e1 e2 e3 e4 e5 hal hfb
      go_wp2_with (at_builtin; refine wpList_app rfl (.tmp 16) (.tmp 18) 51 51 rfl rfl HRUN.out rfl rfl ?_)
      go_roundw
      case rel => exact ⟨k :: seen, HN2.out, HS2.out, by rw [← HR.out]; exact HI3.out, HO3.out, HB3.out, HZ3.out⟩
      case measure => exact HM3.out
theorem who_f (w : World) (p : Nat) (L : List Wr) (S : Nat → Prop) (h : Bf w p L S) :
    Calls Tryd.prog 23 #[.pointer (some ⟨p, 0, none⟩)] w fun e w' => ∃ O v, e = .returned v ∧ OwnI w.heap.size O v w' ∧ So2 O (keysL L) ∧ Below w.heap.size w w' := by
  obtain ⟨⟨b, G, hb⟩, _⟩ := h
  obtain ⟨F, hF, hk⟩ := hb.mr.map
  refine who_map w p b _ F (keysL L) hb.row hF (fun k => ?_) (by have := hb.ok.len; simp [keysL]; omega)
  rw [← sub_ne]
  rcases hk k with ⟨e1, e2⟩ | ⟨v, h1, h2, _⟩
  · rw [e2]; simp [e1]
  · rw [h2]; simp [h1]
theorem who_nil (w : World) : Calls Tryd.prog 23 #[.pointer none] w fun e w' => e = .returned (.slice none 0 0) ∧ w' = w := by
  go_enter Tryd.func23, Tryd.ntmps23
  go_wp2
  go_ret
  exact ⟨rfl, rfl⟩
end Go.Proofs.YtkcebbidmlnmmaaDoor
