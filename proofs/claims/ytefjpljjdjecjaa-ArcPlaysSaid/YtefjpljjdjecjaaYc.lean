/- with, without. -/
import Derived.Test.YtefjpljjdjecjaaYb
import Derived.Great.BuildSlice
namespace Go.Proofs.Ytefjpljjdjecjaa
open Go.RowKit
theorem ht56 : Try.prog.underlying 56 = some (.slice (Try.prog.elem 56)) := Try.underlying56
set_option maxRecDepth 100000 in
theorem sz56 (w : World) : (sizeOf (Try.prog.elem 56)).run Try.prog w = .ok 513 w := by rfl
theorem slice_toH (A : Option Addr) (n cap m : Nat) (hm : m ≤ cap) (w : World) : (Instr.slice 56 (.slice A n cap) none (some (.int .i64 m)) none).run Try.prog w = .ok (sliced A 0 m cap 513) w := by
  rw [run_slice_h (P := Try.prog) w 56 A n cap ht56 .i64 m (by omega) (by omega), sz56]
  simp
theorem slice_fromH (A : Option Addr) (n cap m : Nat) (hm : m ≤ n) (w : World) : (Instr.slice 56 (.slice A n cap) (some (.int .i64 m)) none none).run Try.prog w = .ok (sliced A m n cap 513) w := by
  rw [run_slice_l (P := Try.prog) w 56 A n cap ht56 .i64 m (by omega) (by omega), sz56]
  simp
theorem HA.len {W : World} {A : Option Addr} {n c : Nat} {L : List He} (h : HA W (.slice A n c) L) : n = L.length ∧ n ≤ c ∧ c ≤ maxLen ∧ (A = none → L = []) := by
  obtain ⟨A', c', e, h1, h2, h3⟩ := h
  simp only [Value.slice.injEq] at e
  obtain ⟨rfl, rfl, rfl⟩ := e
  refine ⟨rfl, h1, h2, fun e => ?_⟩
  rcases h3 with h3 | ⟨b, off, e2, _⟩
  · exact h3
  · rw [e] at e2; cases e2
set_option maxRecDepth 100000 in
theorem slicedH_to {W : World} {A : Option Addr} {n c : Nat} {L : List He} (h : HA W (.slice A n c) L) (m : Nat) (hm : m ≤ L.length) : ∃ A1 c1, sliced A 0 m c 513 = .slice A1 m c1 ∧ HA W (.slice A1 m c1) (L.take m) := by
  obtain ⟨A', c', e, h1, h2, h3⟩ := h
  simp only [Value.slice.injEq] at e
  obtain ⟨rfl, rfl, rfl⟩ := e
  have hlen : (L.take m).length = m := by rw [List.length_take]; omega
  rcases h3 with h3 | ⟨b, off, e2, hb, h5⟩
  · subst h3
    obtain rfl : m = 0 := by simpa using hm
    obtain ⟨A1, c1, e1, hc1⟩ : ∃ A1 c1, sliced A 0 0 c 513 = .slice A1 0 c1 ∧ c1 ≤ c := by
      unfold sliced
      split <;> exact ⟨_, _, rfl, by omega⟩
    exact ⟨A1, c1, e1, A1, c1, by simp, by simp, by omega, .inl (by simp)⟩
  · subst e2
    by_cases hc : c = 0
    · have hL : L = [] := List.eq_nil_of_length_eq_zero (by omega)
      subst hL
      obtain rfl : m = 0 := by simpa using hm
      obtain ⟨A1, c1, e1, hc1⟩ : ∃ A1 c1, sliced (some ⟨b, off, none⟩) 0 0 c 513 = .slice A1 0 c1 ∧ c1 ≤ c := by
        unfold sliced
        split <;> exact ⟨_, _, rfl, by omega⟩
      exact ⟨A1, c1, e1, A1, c1, by simp, by simp, by omega, .inl (by simp)⟩
    · refine ⟨some ⟨b, off, none⟩, c, ?_, some ⟨b, off, none⟩, c, by rw [hlen], by omega, h2, .inr ⟨b, off, rfl, hb, fun i hi => ?_⟩⟩
      · unfold sliced
        simp [Addr.add]
      · rw [hlen] at hi
        rw [h5 i (by omega), ← flatH_take L m hm, List.getElem?_take, if_pos hi]
set_option maxRecDepth 100000 in
theorem slicedH_from {W : World} {A : Option Addr} {n c : Nat} {L : List He} (h : HA W (.slice A n c) L) (m : Nat) (hm : m ≤ L.length) : ∃ A2 c2, sliced A m n c 513 = .slice A2 (L.length - m) c2 ∧ HA W (.slice A2 (L.length - m) c2) (L.drop m) := by
  obtain ⟨A', c', e, h1, h2, h3⟩ := h
  simp only [Value.slice.injEq] at e
  obtain ⟨rfl, rfl, rfl⟩ := e
  have hlen : (L.drop m).length = L.length - m := List.length_drop
  by_cases hL : L.drop m = []
  · have h0 : L.length - m = 0 := by rw [← hlen, hL]; rfl
    obtain ⟨A1, c1, e1, hc1⟩ : ∃ A1 c1, sliced A m L.length c 513 = .slice A1 (L.length - m) c1 ∧ c1 ≤ c := by
      unfold sliced
      split <;> exact ⟨_, _, rfl, by omega⟩
    exact ⟨A1, c1, e1, A1, c1, by rw [hlen], by omega, by omega, .inl hL⟩
  · rcases h3 with h3 | ⟨b, off, e2, hb, h5⟩
    · subst h3; simp at hL
    · subst e2
      have hlt : m < L.length := by
        rcases Nat.lt_or_ge m L.length with h | h
        · exact h
        · exact absurd (List.drop_eq_nil_of_le h) hL
      refine ⟨some ⟨b, off + m * 513, none⟩, c - m, ?_, some ⟨b, off + m * 513, none⟩, c - m, by rw [hlen], by omega, by omega, .inr ⟨b, off + m * 513, rfl, hb, fun i hi => ?_⟩⟩
      · unfold sliced
        rw [if_neg (by omega)]
        simp [Addr.add]
      · rw [hlen] at hi
        rw [Nat.add_assoc, h5 _ (by omega), ← flatH_drop L m, List.getElem?_drop]
/-- A row of one's own, in a block no older than B. -/
def NewH (B : Nat) (L : List He) (u : Value) (w : World) : Prop := OH w u L ∧ ∀ k, u.ownBlock = some k → B ≤ k
theorem newH_stable (B : Nat) (L : List He) : ∀ u, StableF (fun u u' => Below u.heap.size u u') (NewH B L u) := by
  rintro u w w' hb ⟨h1, h2⟩
  exact ⟨oh_next h1 hb, h2⟩
theorem runs_app {w w' : World} {o : Oper} {a : Act} {v y v' : Value} {R : Value → World → Prop} (s x : Operand) (t ty : TypeId)
    (ho : o.op = .call { callee := .builtin .append, args := #[s, x], argTypes := #[t, t] }) (hty : o.type = ty) (hr : (Builtin.append_ #[t, t] ty #[v, y]).run Try.prog w = .ok v' w') (hs : a.eval s = v) (hx : a.eval x = y) (h : R v' w') : Runs Try.prog o a w R := by
  unfold Runs execOp
  subst hty
  simp only [ho, resolve, invoke, builtin, Sem.run_bind, Sem.run_pure, Result.andThen_ok, List.map_toArray, List.map_cons, List.map_nil, hs, hx, hr]
  exact h
theorem runs_slice {w : World} {o : Oper} {a : Act} {v v' : Value} {lo hi : Option Value} {R : Value → World → Prop} (x : Operand) (l h : Option Operand)
    (ho : o.op = .slice 56 x l h none) (hr : (Instr.slice 56 v lo hi none).run Try.prog w = .ok v' w) (hx : a.eval x = v) (hl : l.map a.eval = lo) (hh : h.map a.eval = hi) (hR : R v' w) : Runs Try.prog o a w R := by
  unfold Runs execOp
  simp only [ho, Sem.run_bind, hx, hl, hh, Option.map_none, run_sliceAt_slice w 56 v lo hi none ht56, hr, Result.andThen_ok, Sem.run_pure]
  exact hR
def NewRowB (B : Nat) (u : Value) (w : World) : Prop := ∃ b, u = .slice (some ⟨b, 0, none⟩) 0 0 ∧ B ≤ b ∧ RowAt w b 78 []
theorem newRowB_stable (B : Nat) : ∀ u, StableF (fun u u' => Below u.heap.size u u') (NewRowB B u) := by
  rintro u w w' hb ⟨b, rfl, h1, h⟩
  exact ⟨b, rfl, h1, h.next hb⟩
theorem NewH.shape {B : Nat} {L : List He} {u : Value} {w : World} (h : NewH B L u w) : ∃ A c, u = .slice A L.length c := by
  rcases h.1.2 with ⟨rfl, h0⟩ | ⟨g, cap, cur, rfl, _⟩
  · have : L.length = 0 := h0
    exact ⟨_, _, by rw [this]⟩
  · exact ⟨_, _, rfl⟩
set_option maxHeartbeats 2000000 in
set_option maxRecDepth 100000 in
theorem without_any (w : World) (v : Value) (L : List He) (h : HA w v L) (hl : L.length ≤ 9000) (i : Nat) (hi : i < L.length) :
    Calls Try.prog 35 #[v, .int .i64 i] w fun e w' => ∃ u, e = .returned u ∧ HA w' u (L.eraseIdx i) ∧ Below w.heap.size w w' := by
  obtain ⟨A, c, rfl, hc1, hc2⟩ := h.shape
  obtain ⟨A1, c1, e1, s1⟩ := slicedH_to h i (by omega)
  obtain ⟨A2, c2, e2, s2⟩ := slicedH_from h (i + 1) (by omega)
  have r1 : ∀ x : World, (Instr.slice 56 (.slice A L.length c) none (some (.int .i64 i)) none).run Try.prog x = .ok (.slice A1 i c1) x := fun x => by rw [slice_toH A L.length c i (by omega) x, e1]
  have r2 : ∀ x : World, (Instr.slice 56 (.slice A L.length c) (some (.int .i64 (i + 1))) none none).run Try.prog x = .ok (.slice A2 (L.length - (i + 1)) c2) x := fun x => by
    have := slice_fromH A L.length c (i + 1) (by omega) x
    rw [e2] at this
    exact this
  have HR1 := Lib.hid r1
  have HR2 := Lib.hid r2
  have HS1 := Lib.hid s1
  have HS2 := Lib.hid s2
  have l1 : (L.take i).length = i := by rw [List.length_take]; omega
  have l2 : (L.drop (i + 1)).length = L.length - (i + 1) := List.length_drop
  obtain ⟨m, hm⟩ : ∃ m, m = L.length := ⟨_, rfl⟩
  rw [← hm] at hc1 hl hi HR1 HR2 HS2 l2 ⊢
  have HM := Lib.hid hm
  clear h e1 e2 s1 s2 r1 r2 hm
  go_enter Try.func35, Try.ntmps35
  go_wp2_with fail
  refine wp_region_parts (by kernel_rfl) (by kernel_rfl) ?_
  have hb0 : Below w.heap.size w w.drew := (Below.refl _ _).drew
  generalize w.drew = W at *
  apply regL_lq W.heap.size
  intro D hD hn
  apply wpLQ_loose (NewRowB W.heap.size) (newRowB_stable _) (Nat.le_refl _) hD rfl
  · intro x _
    unfold Runs
    go_simp
    exact ⟨⟨_, rfl, x.ok.size, RowAt.new x.val 78 []⟩, bA (Below.refl _ _) _⟩
  intro u0
  simp only [Act.put, List.setIfInBounds_toArray, List.set_cons_succ, List.set_cons_zero]
  iterate 2 (apply wpLQ_pin rfl rfl; intro K hK; go_big_quiet_op; go_big_quiet_on; apply And.intro rfl)
  apply wpLQ_at (.slice A1 i c1) (Nat.le_refl _) hD rfl
  · intro z _
    exact runs_slice (.tmp 6) none (some (.tmp 7)) rfl (HR1.out _) rfl rfl rfl ⟨rfl, Below.refl _ _⟩
  simp only [Act.put, List.setIfInBounds_toArray, List.set_cons_succ, List.set_cons_zero]
  apply wpLQ_loose (NewH W.heap.size (L.take i)) (newH_stable _ _) (Nat.le_refl _) hD rfl
  · intro x hx
    obtain ⟨b, rfl, hB, hb⟩ := Facts.head hx (anc_of (by kernel_rfl))
    obtain ⟨v', w', hr, h1, h2, h3⟩ := run_app0 x.val b hb A1 c1 (L.take i) (by rw [l1]; exact HS1.out.next (bt hb0 x.ok)) HS1.out.len.2.2.2 (by omega)
    rw [l1] at hr
    refine runs_app (.tmp 5) (.tmp 8) 56 56 rfl rfl hr rfl rfl ⟨⟨h1, fun k hk => ?_⟩, h2⟩
    rcases h3 with h3 | h3
    · rw [h3] at hk; cases hk; exact hB
    · rw [h3] at hk; cases hk; exact x.ok.size
  intro u1
  simp only [Act.put, List.setIfInBounds_toArray, List.set_cons_succ, List.set_cons_zero]
  iterate 3 (apply wpLQ_pin rfl rfl; intro K hK; go_big_quiet_op; go_big_quiet_on; apply And.intro rfl)
  apply wpLQ_at (.slice A2 (m - (i + 1)) c2) (Nat.le_refl _) hD rfl
  · intro z _
    exact runs_slice (.tmp 10) (some (.tmp 12)) none rfl (HR2.out _) rfl rfl rfl ⟨rfl, Below.refl _ _⟩
  simp only [Act.put, List.setIfInBounds_toArray, List.set_cons_succ, List.set_cons_zero]
  apply wpLQ_end (bar_of (by kernel_rfl))
  intro V hb1 hFF
  obtain ⟨ho, hob⟩ := hFF (4, NewH W.heap.size (L.take i) u1) (by simp [Facts.add])
  have hbb := bt hb0 hb1
  obtain ⟨A3, c3, rfl⟩ := NewH.shape ⟨ho, hob⟩
  obtain ⟨A4, c4, V2, hr, h1, h2, h3⟩ := run_appH V _ (L.take i) ho A2 c2 (L.drop (i + 1)) (by rw [l2]; exact HS2.out.next hbb) HS2.out.len.2.2.2 (by omega)
  obtain ⟨nn, hnn⟩ : ∃ nn, nn = (L.take i).length + (L.drop (i + 1)).length := ⟨_, rfl⟩
  rw [← hnn] at hr h1
  rw [l2] at hr
  clear hnn h3
  refine regL_one (bar_of (by kernel_rfl)) rfl (Runs.wp (R := fun v w' => v = _ ∧ w' = V2) (runs_app (.tmp 9) (.tmp 13) 56 56 rfl rfl hr rfl rfl ⟨rfl, rfl⟩) ?_)
  rintro _ V2 ⟨rfl, rfl⟩
  have HO := Lib.hid h1
  have HB2 : Hid (Below w.heap.size w V2) := Lib.hid (hbb.trans (h2.below (by have := hbb.size; omega) (fun k hk => Nat.le_trans hb0.size (hob k hk))))
  have HL : Hid (L.take i ++ L.drop (i + 1) = L.eraseIdx i) := Lib.hid (List.eraseIdx_eq_take_drop_succ _ _).symm
  clear h1 h2 hFF hr ho hob hbb hb1 hb0 hn
  simp only [Act.put, List.setIfInBounds_toArray, List.set_cons_succ, List.set_cons_zero]
  apply regL_lq V2.heap.size
  intro D hD hn
  repeat (apply wpLQ_pin rfl rfl; intro K hK; go_big_quiet_op; go_big_quiet_on; apply And.intro rfl)
  apply wpLQ_nil (by simp)
  intro V3 hb3 _
  have HH : Hid (HA V3 (Value.slice A4 nn c4) (L.eraseIdx i)) := Lib.hid (by rw [← HL.out]; exact (oh_next HO.out hb3).ha)
  have HB3 : Hid (Below w.heap.size w V3) := Lib.hid (HB2.out.trans (hb3.mono HB2.out.size))
  go_wp2_with fail
  all_goals refine bodyPost_ret (by simp [results, Try.results35, go_sem]; rfl) rfl ?_
  all_goals exact ⟨_, rfl, HH.out, HB3.out⟩
theorem load78 {w : World} {g : Nat} {v : List Value} (h : RowAt w g 78 v) (hl : v.length = 513) : (loadVar 78 ⟨g, 0, none⟩).run Try.prog w = .ok (.agg v.toArray) w :=
  run_loadVar_row w g 78 78 v.toArray (0, 0) _ h Try.underlying78 rfl (by
    obtain ⟨i, z, e1, _, e3, _⟩ := info78
    rw [e1]; simp [hl, e3])
theorem run_bs1 (w : World) (E : List Value) (hE : E.length = 513) : (Instr.buildSlice 56 1 #[(0, .agg E.toArray)]).run Try.prog w = .ok (.slice (some ⟨w.heap.size, 0, none⟩) 1 1) (w.alloc (.cells E.toArray 78)) := by
  obtain ⟨i, z, e1, e2, e3, _, e5⟩ := info78
  refine run_buildSlice w 56 78 1 _ E.toArray i z Try.underlying56 e1 e2 (by omega) (by omega) ?_
  rw [e3]
  obtain ⟨r, hr, hs, hk⟩ := Great.fill_dense (s := 513) (by omega) [.agg E.toArray] 0 ((Array.range (1 * 513)).map (z.cells[· % z.cells.size]!)) (fun v hv => by obtain rfl := List.mem_singleton.1 hv; simpa [Value.cells] using hE) (by simp)
  have : r = E.toArray := by
    apply Array.ext_getElem?
    intro k
    rw [hk k]
    by_cases h : k < 513
    · rw [if_pos (by simp; omega), Nat.div_eq_of_lt h, Nat.mod_eq_of_lt h]
      simp [Value.cells]
    · rw [if_neg (by simp; omega)]
      rw [Array.getElem?_eq_none (by simp; omega), Array.getElem?_eq_none (by simp [hE]; omega)]
  exact hr.trans (congrArg some this)
section
variable {o : Oper} {a : Act} {w : World} {R : Value → World → Prop}
theorem runs_loadH {x : Operand} {g : Nat} {v : List Value} {T : TypeId} (ho : o.op = .load T x) (hx : a.eval x = .pointer (some ⟨g, 0, none⟩)) (hr : (loadVar T ⟨g, 0, none⟩).run Try.prog w = .ok (.agg v.toArray) w) (h : R (.agg v.toArray) w) : Runs Try.prog o a w R := by
  unfold Runs execOp
  simp only [ho, hx, Instr.loadAt, Instr.sureAddr, Sem.run_bind, Sem.run_pure, Result.andThen_ok, hr]
  exact h
theorem runs_bs1 {x : Operand} {E : List Value} (ho : o.op = .buildSlice 56 1 #[(0, x)]) (hx : a.eval x = .agg E.toArray) (hE : E.length = 513) (h : R (.slice (some ⟨w.heap.size, 0, none⟩) 1 1) (w.alloc (.cells E.toArray 78))) : Runs Try.prog o a w R := by
  unfold Runs execOp
  simp only [ho, hx, List.map_toArray, List.map_cons, List.map_nil, Sem.run_bind, run_bs1 w E hE, Result.andThen_ok]
  exact h
end
/-- A new row of one. -/
def NewH1 (E : List Value) (u : Value) (w : World) : Prop := ∃ b, u = .slice (some ⟨b, 0, none⟩) 1 1 ∧ RowAt w b 78 E
theorem newH1_stable (E : List Value) : ∀ u, StableF (fun u u' => Below u.heap.size u u') (NewH1 E u) := by
  rintro u w w' hb ⟨b, rfl, h⟩
  exact ⟨b, rfl, h.next hb⟩
theorem ha_one {w : World} {b : Nat} {e : He} (h : RowAt w b 78 (had e)) : HA w (.slice (some ⟨b, 0, none⟩) 1 1) [e] := by
  refine ⟨_, 1, rfl, Nat.le_refl _, by simp [maxLen], .inr ⟨b, 0, rfl, ⟨_, _, h⟩, fun i hi => ?_⟩⟩
  rw [Nat.zero_add, RowAt.cell h]
  simp [flatH]
set_option maxHeartbeats 2000000 in
set_option maxRecDepth 100000 in
theorem with_any (w : World) (v : Value) (L : List He) (h : HA w v L) (hl : L.length ≤ 9000) (e : He) :
    Calls Try.prog 36 #[v, .agg (had e).toArray] w fun r w' => ∃ u, r = .returned u ∧ HA w' u (L ++ [e]) ∧ Below w.heap.size w w' := by
  obtain ⟨A, c, rfl, hc1, hc2⟩ := h.shape
  have hx : RowAt (w.alloc (.cells (had e).toArray 78)) w.heap.size 78 (had e) := RowAt.new w 78 _
  have hbx : Below w.heap.size w (w.alloc (.cells (had e).toArray 78)) := bA (Below.refl _ _) _
  have HS := Lib.hid (h.next hbx)
  obtain ⟨E, hE⟩ : ∃ E, E = had e := ⟨_, rfl⟩
  obtain ⟨m, hm⟩ : ∃ m, m = L.length := ⟨_, rfl⟩
  rw [← hE] at hx hbx HS ⊢
  rw [← hm] at hc1 hl HS ⊢
  have HE := Lib.hid hE
  have HM := Lib.hid hm
  have HX := Lib.hid hx
  have HBX := Lib.hid hbx
  clear h hE hm hx hbx
  go_enter Try.func36, Try.ntmps36
  go_wp2_with fail
  refine wp_region_parts (by kernel_rfl) (by kernel_rfl) ?_
  have hb0 := HBX.out.drew
  have hx1 := HX.out.next ((Below.refl _ _).drew)
  have hs1 := HS.out.next ((Below.refl _ _).drew)
  generalize hW : (w.alloc (.cells E.toArray 78)).drew = W at *
  clear hW
  have HX1 := Lib.hid hx1
  have HS1 := Lib.hid hs1
  have hEl : E.length = 513 := by rw [HE.out, had_len]
  clear hx1 hs1
  apply regL_lq W.heap.size
  intro D hD hn
  apply wpLQ_loose (NewRowB W.heap.size) (newRowB_stable _) (Nat.le_refl _) hD rfl
  · intro x _
    unfold Runs
    go_simp
    exact ⟨⟨_, rfl, x.ok.size, RowAt.new x.val 78 []⟩, bA (Below.refl _ _) _⟩
  intro u0
  simp only [Act.put, List.setIfInBounds_toArray, List.set_cons_succ, List.set_cons_zero]
  iterate 1 (apply wpLQ_pin rfl rfl; intro K hK; go_big_quiet_op; go_big_quiet_on; apply And.intro rfl)
  apply wpLQ_loose (NewH W.heap.size L) (newH_stable _ _) (Nat.le_refl _) hD rfl
  · intro x hx
    obtain ⟨b, rfl, hB, hb⟩ := Facts.head hx (anc_of (by kernel_rfl))
    obtain ⟨v', w', hr, h1, h2, h3⟩ := run_app0 x.val b hb A c L (by rw [← HM.out]; exact HS1.out.next x.ok) (by have := HS1.out.len; rw [HM.out] at this; exact this.2.2.2) (by rw [← HM.out]; omega)
    rw [← HM.out] at hr
    refine runs_app (.tmp 5) (.tmp 6) 56 56 rfl rfl hr rfl rfl ⟨⟨h1, fun k hk => ?_⟩, h2⟩
    rcases h3 with h3 | h3
    · rw [h3] at hk; cases hk; exact hB
    · rw [h3] at hk; cases hk; exact x.ok.size
  intro u1
  simp only [Act.put, List.setIfInBounds_toArray, List.set_cons_succ, List.set_cons_zero]
  apply wpLQ_at (.agg E.toArray) (Nat.le_refl _) hD rfl
  · intro z _
    exact runs_loadH (x := .tmp 3) rfl rfl (load78 (HX1.out.next z.ok) hEl) ⟨rfl, Below.refl _ _⟩
  simp only [Act.put, List.setIfInBounds_toArray, List.set_cons_succ, List.set_cons_zero]
  apply wpLQ_loose (NewH1 E) (newH1_stable _) (Nat.le_refl _) hD rfl
  · intro x _
    exact runs_bs1 (x := .tmp 8) rfl rfl hEl ⟨⟨_, rfl, RowAt.new x.val 78 _⟩, bA (Below.refl _ _) _⟩
  intro u2
  simp only [Act.put, List.setIfInBounds_toArray, List.set_cons_succ, List.set_cons_zero]
  apply wpLQ_end (bar_of (by kernel_rfl))
  intro V hb1 hFF
  obtain ⟨ho, hob⟩ := hFF (2, NewH W.heap.size L u1) (by simp [Facts.add])
  obtain ⟨b2, rfl, hb2⟩ := hFF (4, NewH1 E u2) (by simp [Facts.add])
  have hbb := bt hb0 hb1
  obtain ⟨A3, c3, rfl⟩ := NewH.shape ⟨ho, hob⟩
  rw [HE.out] at hb2
  obtain ⟨A4, c4, V2, hr, h1, h2, h3⟩ := run_appH V _ L ho (some ⟨b2, 0, none⟩) 1 [e] (ha_one hb2) (fun h => by cases h) (by rw [← HM.out]; simp; omega)
  obtain ⟨nn, hnn⟩ : ∃ nn, nn = L.length + [e].length := ⟨_, rfl⟩
  rw [← hnn] at hr h1
  clear hnn h3
  refine regL_one (bar_of (by kernel_rfl)) rfl (Runs.wp (R := fun v w' => v = _ ∧ w' = V2) (runs_app (.tmp 7) (.tmp 9) 56 56 rfl rfl hr rfl rfl ⟨rfl, rfl⟩) ?_)
  rintro _ V2 ⟨rfl, rfl⟩
  have HO := Lib.hid h1
  have HB2 : Hid (Below w.heap.size w V2) := Lib.hid (hbb.trans (h2.below (by have := hbb.size; omega) (fun k hk => Nat.le_trans hb0.size (hob k hk))))
  clear h1 h2 hFF hr ho hob hbb hb1 hb0 hn hb2
  simp only [Act.put, List.setIfInBounds_toArray, List.set_cons_succ, List.set_cons_zero]
  apply regL_lq V2.heap.size
  intro D hD hn
  repeat (apply wpLQ_pin rfl rfl; intro K hK; go_big_quiet_op; go_big_quiet_on; apply And.intro rfl)
  apply wpLQ_nil (by simp)
  intro V3 hb3 _
  have HH : Hid (HA V3 (Value.slice A4 nn c4) (L ++ [e])) := Lib.hid (oh_next HO.out hb3).ha
  have HB3 : Hid (Below w.heap.size w V3) := Lib.hid (HB2.out.trans (hb3.mono HB2.out.size))
  go_wp2_with fail
  all_goals refine bodyPost_ret (by simp [results, Try.results36, go_sem]; rfl) rfl ?_
  all_goals exact ⟨_, rfl, HH.out, HB3.out⟩
end Go.Proofs.Ytefjpljjdjecjaa
