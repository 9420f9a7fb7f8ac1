/- Copy. -/
import Derived.Test.YtkcebbidmlnmmaaDoorXi
import Derived.Test.YtkcebbidmlnmmaaDoorSe
import Derived.Deep.CutBlock
import Derived.Deep.CutRange
import Derived.Deep.DeepCutAuto
namespace Go.Proofs.YtkcebbidmlnmmaaDoor
open Go.RowKit
set_option maxRecDepth 100000 in
theorem len59 {w : World} {b : Nat} {F : Int → Option Value} (h : MapAt w b F) : ∃ m : Nat, ∀ W, Below w.heap.size w W → (Builtin.len_ #[59] 3 #[.map (some b)]).run Tryd.prog W = .ok (.int .i64 (m : Int)) W := by
  have hl := h.lt
  obtain ⟨es, c, h1, _⟩ := h
  refine ⟨es.size, fun W hW => ?_⟩
  have h2 : W.heap[b]? = some (.map es c) := by rw [hW.block b hl]; exact h1
  exact run_len_map (P := Tryd.prog) W 59 3 b es c (by kernel_rfl) h2
set_option maxRecDepth 100000 in
theorem makeH59 (w : World) (m : Int) : (Instr.makeMap 59 (some (.int .i64 m))).run Tryd.prog w = .ok (.map (some w.heap.size)) (w.alloc (.map #[] 0)) := by
  first | rfl | (simp [Instr.makeMap, run_underlying Tryd.underlying59, go_sem]; rfl) | (simp [Instr.makeMap, run_underlying Tryd.underlying59, go_sem])
theorem runs_len {P : Program} {w w' : World} {o : Oper} {a : Act} {v v' : Value} {R : Value → World → Prop} (s : Operand) (t ty : TypeId)
    (ho : o.op = .call { callee := .builtin .len, args := #[s], argTypes := #[t] }) (hty : o.type = ty) (hr : (Builtin.len_ #[t] ty #[v]).run P w = .ok v' w') (hs : a.eval s = v) (h : R v' w') : Runs P o a w R := by
  unfold Runs execOp
  subst hty
  simp only [ho, resolve, invoke, builtin, Sem.run_bind, Sem.run_pure, Result.andThen_ok, List.map_toArray, List.map_cons, List.map_nil, hs, hr]
  exact h
theorem runs_mkmap {P : Program} {w w' : World} {o : Oper} {a : Act} {u v' : Value} {R : Value → World → Prop} (s : Operand) (t : TypeId)
    (ho : o.op = .makeMap t (some s)) (hr : (Instr.makeMap t (some u)).run P w = .ok v' w') (hs : a.eval s = u) (h : R v' w') : Runs P o a w R := by
  unfold Runs execOp
  simp only [ho, Option.map_some, hs, Sem.run_bind, Sem.run_pure, Result.andThen_ok, hr]
  exact h
/-- A new map, empty. -/
def NewM (B : Nat) (u : Value) (w : World) : Prop := ∃ b, u = .map (some b) ∧ B ≤ b ∧ MapAt w b fun _ => none
theorem newM_stable (B : Nat) : ∀ u, StableF (fun u u' => Below u.heap.size u u') (NewM B u) := by
  rintro u w w' hb ⟨b, rfl, h0, h⟩
  exact ⟨b, rfl, h0, h.next hb⟩
def NewG (B : Nat) (n : Int) (u : Value) (w : World) : Prop := ∃ b, u = .agg #[.map (some b), .int .i64 n] ∧ B ≤ b ∧ MapAt w b fun _ => none
theorem newG_stable (B : Nat) (n : Int) : ∀ u, StableF (fun u u' => Below u.heap.size u u') (NewG B n u) := by
  rintro u w w' hb ⟨b, rfl, h0, h⟩
  exact ⟨b, rfl, h0, h.next hb⟩
def NewB (B : Nat) (n : Int) (u : Value) (w : World) : Prop := ∃ p b, u = .pointer (some ⟨p, 0, none⟩) ∧ B ≤ p ∧ RowAt w p 61 [.map (some b), .int .i64 n] ∧ B ≤ b ∧ MapAt w b fun _ => none
theorem newB_stable (B : Nat) (n : Int) : ∀ u, StableF (fun u u' => Below u.heap.size u u') (NewB B n u) := by
  rintro u w w' hb ⟨p, b, rfl, h0, h1, h2, h3⟩
  exact ⟨p, b, rfl, h0, h1.next hb, h2, h3.next hb⟩
/-- A clone of a row. -/
def NewC (B : Nat) (P : List Pt) (u : Value) (w : World) : Prop := ∃ g, RowV w P g u ∧ B ≤ g
theorem newC_stable (B : Nat) (P : List Pt) : ∀ u, StableF (fun u u' => Below u.heap.size u u') (NewC B P u) := by
  rintro u w w' hb ⟨g, h0, h1⟩
  exact ⟨g, h0.next hb, h1⟩
/-- Behind the objects of seen: the copy at p2 has their rows. -/
def CpI (w : World) (b r p2 b2 B0 : Nat) (n : Int) (F : Int → Option Value) (L : List Wr) (W : World) : Prop :=
  ∃ seen G, (∀ k ∈ seen, F k ≠ none) ∧ IterAt W r b F seen ∧ RowAt W p2 61 [.map (some b2), .int .i64 n] ∧ Mr W b2 (fun k => if k ∈ seen then sub k L else []) G (fun i => B0 ≤ i ∧ i ≠ r ∧ i ≠ p2) ∧ Below B0 w W
set_option maxHeartbeats 4000000 in
set_option maxRecDepth 20000 in
theorem copy_map (w : World) (p b : Nat) (L : List Wr) (G : Int → Nat) (S : Nat → Prop) (h : Bm w p b L G S) :
    Calls Tryd.prog 17 #[.pointer (some ⟨p, 0, none⟩)] w fun e w' => ∃ p2 b2 G2, e = .returned (.pointer (some ⟨p2, 0, none⟩)) ∧ Bm w' p2 b2 L G2 (fun i => w.heap.size ≤ i) ∧ Below w.heap.size w w' := by
  have c0 := h.c0
  have c1 := h.c1
  have hpl := h.row.lt
  obtain ⟨F, hF, hk⟩ := h.mr.map
  obtain ⟨m, hlen⟩ := len59 hF
  have HOK := Lib.hid h.ok
  have HF := Lib.hid hF
  have HK := Lib.hid hk
  have HRW := Lib.hid h.row
  clear h hF hk
  obtain ⟨n, hn⟩ : ∃ n, n = tot L := ⟨_, rfl⟩
  rw [← hn] at c1 HRW
  have HN := Lib.hid hn
  clear hn
  go_enter Tryd.func17, Tryd.ntmps17
  go_wp2_with fail
  refine wp_region_parts (by kernel_rfl) (by kernel_rfl) ?_
  have hb0 : Below w.heap.size w w.drew := (Below.refl _ _).drew
  generalize w.drew = V at *
  have hplV : p < V.heap.size := Nat.lt_of_lt_of_le hpl hb0.size
  have HB0 := Lib.hid hb0
  apply regL_lq V.heap.size
  intro D hD hne
  have p0 := fun z : Bd V.heap.size V D => ((bt hb0 z.ok).cell (p := ⟨p, 0, none⟩) hpl).trans c0
  have p1 := fun z : Bd V.heap.size V D => ((bt hb0 z.ok).cell (p := ⟨p, 1, none⟩) hpl).trans c1
  iterate 4 (apply wpLQ_pin rfl rfl; intro K hK; go_big_quiet_op; go_big_quiet_on; apply And.intro rfl)
  apply wpLQ_at (.int .i64 (m : Int)) (Nat.le_refl _) hD rfl
  · intro x _
    exact runs_len (.tmp 11) 59 3 rfl rfl (hlen _ (bt hb0 x.ok)) rfl ⟨rfl, Below.refl _ _⟩
  simp only [Act.put, List.setIfInBounds_toArray, List.set_cons_succ, List.set_cons_zero]
  apply wpLQ_loose (NewM w.heap.size) (newM_stable _) (Nat.le_refl _) hD rfl
  · intro x _
    exact runs_mkmap (.tmp 12) 59 rfl (makeH59 _ m) rfl ⟨⟨_, rfl, Nat.le_trans hb0.size x.ok.size, MapAt.made _⟩, bA (Below.refl _ _) _⟩
  intro u0
  simp only [Act.put, List.setIfInBounds_toArray, List.set_cons_succ, List.set_cons_zero]
  iterate 4 (apply wpLQ_pin rfl rfl; intro K hK; go_big_quiet_op; go_big_quiet_on; apply And.intro rfl)
  apply wpLQ_loose (NewG w.heap.size n) (newG_stable _ _) (Nat.le_refl _) hD rfl
  · intro x hx
    obtain ⟨b2, rfl, h1, h2⟩ := Facts.head hx (anc_of (by kernel_rfl))
    unfold Runs
    go_simp
    exact ⟨⟨b2, rfl, h1, h2⟩, Below.refl _ _⟩
  intro u1
  simp only [Act.put, List.setIfInBounds_toArray, List.set_cons_succ, List.set_cons_zero]
  apply wpLQ_loose (NewB w.heap.size n) (newB_stable _ _) (Nat.le_refl _) hD rfl
  · intro x hx
    obtain ⟨b2, rfl, h1, h2⟩ := Facts.head hx (anc_of (by kernel_rfl))
    unfold Runs
    go_simp
    have hal : Below x.val.heap.size x.val (x.val.alloc (.cells #[.map (some b2), .int .i64 n] 61)) := bA (Below.refl _ _) _
    exact ⟨⟨_, b2, rfl, Nat.le_trans hb0.size x.ok.size, RowAt.new x.val 61 [.map (some b2), .int .i64 n], h1, h2.next hal⟩, hal⟩
  intro u2
  simp only [Act.put, List.setIfInBounds_toArray, List.set_cons_succ, List.set_cons_zero]
  apply wpLQ_loose (NewB w.heap.size n) (newB_stable _ _) (Nat.le_refl _) hD rfl
  · intro x hx
    obtain ⟨p2, b2, rfl, h1⟩ := Facts.head hx (anc_of (by kernel_rfl))
    unfold Runs
    go_simp
    exact ⟨⟨p2, b2, rfl, h1⟩, Below.refl _ _⟩
  intro u3
  simp only [Act.put, List.setIfInBounds_toArray, List.set_cons_succ, List.set_cons_zero]
  apply wpLQ_nil (by simp)
  intro W1 hb1 hFF
  obtain ⟨p2, b2, rfl, h1, h2, h3, h4⟩ := hFF (12, NewB w.heap.size n u3) (.inl rfl)
  have HB1 := Lib.hid (bt hb0 hb1)
  have HR2 := Lib.hid h2
  have HM2 := Lib.hid h4
  have HG2 : Hid (w.heap.size ≤ p2 ∧ w.heap.size ≤ b2) := Lib.hid ⟨h1, h3⟩
  have k0 : W1.cell? ⟨p, 0, none⟩ = some (.map (some b)) := (HB1.out.cell (p := ⟨p, 0, none⟩) hpl).trans c0
  clear hFF h1 h2 h3 h4 hb0 hb1 p0 p1 hD hne hlen c0 c1 HB0 hplV
  have HF1 := Lib.hid (HF.out.next HB1.out)
  have hne2 : p2 ≠ b2 := by
    intro e
    obtain ⟨es, c, q1, _⟩ := HM2.out
    have q2 := HR2.out
    unfold RowAt at q2
    rw [e, q1] at q2
    cases q2
  go_wp2_with (at_range; refine wpList_range rfl (.tmp 23) rfl rfl HF1.out Tryd.underlying59 fun w2 hi hb hz => ?_)
  simp only [Act.put, List.setIfInBounds_toArray, List.set_cons_succ, List.set_cons_zero]
  obtain ⟨r, hr⟩ : ∃ r, r = W1.heap.size := ⟨_, rfl⟩
  rw [← hr]
  have HI : Hid (CpI w b r p2 b2 w.heap.size n F L w2) := Lib.hid ⟨[], fun _ => 0, by simp, by rw [hr]; exact hi, HR2.out.next hb,
    ⟨⟨_, HM2.out.next hb, fun k => .inl ⟨by simp, rfl⟩⟩, fun k k' h => absurd (by simp) h, ⟨HG2.out.2, by have := HM2.out.lt; omega, fun e => hne2 e.symm⟩, fun k h => absurd (by simp) h⟩, bt HB1.out hb⟩
  have HRL : Hid (w.heap.size ≤ r ∧ p2 < r ∧ b2 < r) := Lib.hid ⟨by rw [hr]; exact HB1.out.size, by rw [hr]; exact HR2.out.lt, by rw [hr]; exact HM2.out.lt⟩
  clear hi hb hz hr k0 HB1 HR2 HM2 HF1
  go_loopw [4] (fun _ wr => CpI w b r p2 b2 w.heap.size n F L wr) (fun _ wr => wr.rangeLeft b r)
  case atStart => exact HI.out
  case round =>
    obtain ⟨seen, G1, hs, hi, hr2, hm, hb⟩ := hrel
    clear HI
    have HS := Lib.hid hs
    have HI := Lib.hid hi
    have HR2 := Lib.hid hr2
    have HM := Lib.hid hm
    have HB := Lib.hid hb
    clear hs hi hr2 hm hb
    go_upto_region 7 with (at_next; refine hid_next rfl (.tmp 24) rfl rfl HI.out (fun hd => ?_) (fun k v w3 hk hit hfr hsz hlt hen => ?_))
    · have HE : Hid (Bm wr p2 b2 L G1 (fun i => w.heap.size ≤ i)) := Lib.hid (by
        refine ⟨by rw [← HN.out]; exact HR2.out, (HM.out.ext (R' := fun k => sub k L) (fun k => ?_)).mono (fun i _ h => h.1), HOK.out, HG2.out.1⟩
        by_cases hkk : k ∈ seen
        · rw [if_pos hkk]
        · rw [if_neg hkk]
          rcases HK.out k with ⟨e, _⟩ | ⟨v, _, e2, _⟩
          · exact e
          · exact absurd (hd k v e2) hkk)
      clear hd
      go_wp2_with fail
      all_goals refine bodyPost_ret (by simp [results, Tryd.results17, go_sem]; rfl) rfl ?_
      all_goals exact ⟨p2, b2, G1, rfl, HE.out, HB.out⟩
    · have HB3 : Hid (Below w.heap.size w w3) := Lib.hid (HB.out.trans (Fr.below hfr.out HB.out.size (fun _ e => by have := HRL.out; omega)))
      have HR3 := Lib.hid (HR2.out.fr hfr.out (by have := HRL.out; omega))
      have HM3 := Lib.hid (HM.out.fr hfr.out (fun i _ e h => h.2.1 e))
      have HV : Hid (RowV w3 (sub k L) (G k) v ∧ sub k L ≠ []) := Lib.hid (by
        rcases HK.out k with ⟨_, e2⟩ | ⟨v', e1, e2, e3⟩
        · rw [e2] at hk; cases hk.out.1
        · rw [hk.out.1] at e2
          cases e2
          exact ⟨RowV.next (.inr ⟨e1, e3⟩) HB3.out, e1⟩)
      have HSL : Hid ((sub k L).length ≤ 65536) := Lib.hid (HOK.out.sublen k)
      have k0 : w3.cell? ⟨p2, 0, none⟩ = some (.map (some b2)) := HR3.out.cell 0
      have kl := HR3.out.lt
      go_wp2_with fail
      clear hen
      refine wp_region_parts (by kernel_rfl) (by kernel_rfl) ?_
      have hb0 : Below w3.heap.size w3 w3.drew := (Below.refl _ _).drew
      generalize w3.drew = V at *
      apply regL_lq V.heap.size
      intro D hD hne
      have q0 := fun z : Bd V.heap.size V D => ((bt hb0 z.ok).cell (p := ⟨p2, 0, none⟩) kl).trans k0
      iterate 6 (apply wpLQ_pin rfl rfl; intro K hK; go_big_quiet_op; go_big_quiet_on; apply And.intro rfl)
      apply wpLQ_loose (NewC w3.heap.size (sub k L)) (newC_stable _ _) (Nat.le_refl _) hD rfl
      · intro x _
        unfold Runs
        go_simp
        refine (clone_any x.val (sub k L) (G k) v (HV.out.1.next (bt hb0 x.ok)) HSL.out).mono ?_
        rintro e w4 ⟨v', g', rfl, h1, h2, h3⟩
        exact ⟨v', rfl, ⟨g', h1, Nat.le_trans (bt hb0 x.ok).size h2⟩, h3⟩
      intro u
      simp only [Act.put, List.setIfInBounds_toArray, List.set_cons_succ, List.set_cons_zero]
      apply wpLQ_end (bar_of (by kernel_rfl))
      intro w5 hb5 hFF
      obtain ⟨g', hv', hg'⟩ := hFF (6, NewC w3.heap.size (sub k L) u) (.inl rfl)
      have hb6 := bt hb0 hb5
      have hrw : Rw w5 u (sub k L) g' := by
        rcases hv' with ⟨e, _⟩ | ⟨_, h⟩
        · exact absurd e HV.out.2
        · exact h
      obtain ⟨w6, hrun, hm6, hf6, hf6'⟩ := HM3.out.put k (P := sub k L) (g := g') HV.out.2 hrw (M := fun _ => False) (Fr.of_below hb6) (fun _ x => x.elim) (.inr hg')
      have HRUN := Lib.hid hrun
      have HCP : Hid (CpI w b r p2 b2 w.heap.size n F L w6) := Lib.hid (by
        have hz3 : w3.heap.size ≤ w5.heap.size := hb6.size
        have hr3 : r < w3.heap.size := hit.out.ltr
        refine ⟨k :: seen, _, fun x hx => ?_, (hit.out.next hb6).fr hf6' (by have := hit.out.map.lt; have := HF.out.lt; have := HG2.out; omega) (by have := HRL.out; omega), (HR3.out.next hb6).fr hf6' (fun e => hne2 e), (hm6.ext (fun j => ?_)).mono (fun i _ h => ?_), HB3.out.trans (hf6.below HB3.out.size (fun i x => x.1))⟩
        · rcases List.mem_cons.1 hx with rfl | hx
          · rw [hk.out.1]; simp
          · exact HS.out x hx
        · by_cases e : j = k
          · subst e; simp
          · simp [e]
        · rcases h with h | h
          · exact h
          · have := HB3.out.size
            have := HRL.out
            exact ⟨by omega, by omega, by omega⟩)
      have HLT : Hid (w6.rangeLeft b r < wr.rangeLeft b r) := Lib.hid (by
        have hr3 : r < w3.heap.size := hit.out.ltr
        have e : w6.rangeLeft b r = w3.rangeLeft b r := by
          unfold World.rangeLeft
          have y1 : w6.heap[b]? = w3.heap[b]? := (hf6'.block b (Nat.lt_of_lt_of_le hit.out.map.lt hb6.size) (by have := HF.out.lt; have := HG2.out; omega)).trans (hb6.block b hit.out.map.lt)
          have y2 : w6.heap[r]? = w3.heap[r]? := (hf6'.block r (Nat.lt_of_lt_of_le hr3 hb6.size) (by have := HRL.out; omega)).trans (hb6.block r hr3)
          rw [y1, y2]
        rw [e]
        exact hlt.out)
      clear hFF hv' hrw hrun hm6 hf6 hf6' hb6 hb5 q0 hD hne hb0 hg' k0 kl
      apply regL_one (bar_of (by kernel_rfl)) rfl
      refine wp_upd rfl rfl rfl rfl HRUN.out ?_
      apply regL_nil
      simp only [Act.put]
      go_roundw
      case rel => exact ⟨_, _, _, _, _, _, _, _, _, _, _, _, _, _, HCP.out, rfl⟩
      case measure => exact HLT.out
/-- A copy: all of it new. -/
theorem copy_f (w : World) (p : Nat) (L : List Wr) (S : Nat → Prop) (h : Bf w p L S) :
    Calls Tryd.prog 17 #[.pointer (some ⟨p, 0, none⟩)] w fun e w' => ∃ p2 S2, e = .returned (.pointer (some ⟨p2, 0, none⟩)) ∧ Bf w' p2 L S2 ∧ (∀ i, S2 i → w.heap.size ≤ i) ∧ Below w.heap.size w w' := by
  obtain ⟨⟨b, G, hb⟩, _⟩ := h
  refine (copy_map w p b L G S hb).mono ?_
  rintro e w' ⟨p2, b2, G2, rfl, h1, h2⟩
  obtain ⟨S2, h3, h4⟩ := Bf.of h1
  exact ⟨p2, S2, rfl, h3, h4, h2⟩
theorem copy_nil (w : World) : Calls Tryd.prog 17 #[.pointer none] w fun e w' => e = .returned (.pointer none) ∧ w' = w := by
  go_enter Tryd.func17, Tryd.ntmps17
  go_wp2
  go_ret
  exact ⟨rfl, rfl⟩
end Go.Proofs.YtkcebbidmlnmmaaDoor
