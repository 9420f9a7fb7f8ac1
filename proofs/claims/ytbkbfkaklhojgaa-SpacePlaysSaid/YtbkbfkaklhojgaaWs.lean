/- The document's Copy. -/
import Derived.Test.YtbkbfkaklhojgaaWr
namespace Go.Proofs.Ytbkbfkaklhojgaa
open Go.RowKit Go.Shelf
theorem app45 (w : World) (b0 g N cap : Nat) (f : Nat → Nat) (h : ∀ k, k < N → w.cell? ⟨g, k, none⟩ = some (.int .i64 (eN (f k)))) (h0 : 0 < N) (hN : N ≤ 8192) :
    ∃ cap' pad, (Builtin.append_ #[45, 45] 45 #[.slice (some ⟨b0, 0, none⟩) 0 0, .slice (some ⟨g, 0, none⟩) N cap]).run Try.prog w = .ok (.slice (some ⟨w.heap.size, 0, none⟩) N cap') (w.drew.alloc (.cells (refL N f ++ pad).toArray 3)) ∧ N ≤ cap' ∧ cap' ≤ maxLen := by
  obtain ⟨i, hi, hz, hs, hby⟩ : ∃ i, Try.prog.info? 3 = some i ∧ i.zero = some (.int .i64 0) ∧ i.size = 1 ∧ i.bytes = 8 := ⟨_, rfl, rfl, rfl, rfl⟩
  have hr := run_append_grow (P := Try.prog) w 45 45 3 i (.int .i64 0) Try.underlying45 hi hz ⟨b0, 0, none⟩ 0 0 [] (by simp) (by simp) ⟨g, 0, none⟩ N cap (refL N f) (by rw [refL_len, hs]; omega) (fun j v hv => by
    have hj : j < N := by
      have := (List.getElem?_eq_some_iff.1 hv).1
      rwa [refL_len] at this
    rw [refL_get N f j hj] at hv
    have e1 : (⟨g, 0, none⟩ : Addr).add j = ⟨g, j, none⟩ := by rw [Addr.add_mid, Nat.zero_add]
    rw [e1, h j hj]
    exact hv) (by omega) (by omega) (growslice_fits (by omega) (by rw [hby]; omega))
  rw [Nat.zero_add] at hr
  refine ⟨grownCap w N 0 3, (Builtin.zeroCells (Value.int .i64 0).cells (grownCap w N 0 3 - N)).toList, ?_, grownCap_ge w N 0 3, grownCap_le_maxLen w N 0 3 (by unfold maxLen; omega)⟩
  rw [hr]
  congr 3
  simp
/-- A slice over a new block that holds the document's states. -/
def NewRef (B N : Nat) (f : Nat → Nat) (u : Value) (w : World) : Prop := ∃ b cap pad, u = .slice (some ⟨b, 0, none⟩) N cap ∧ B ≤ b ∧ RowAt w b 3 (refL N f ++ pad) ∧ N ≤ cap ∧ cap ≤ maxLen
theorem newRef_stable (B N : Nat) (f : Nat → Nat) : ∀ u, StableF (fun u u' => Below u.heap.size u u') (NewRef B N f u) := by
  rintro u w w' hb ⟨b, c, p, rfl, h0, h, h1⟩
  exact ⟨b, c, p, rfl, h0, h.next hb, h1⟩
def NewAgg (B N : Nat) (last : Int) (f : Nat → Nat) (u : Value) (w : World) : Prop := ∃ b cap pad, u = .agg #[.slice (some ⟨b, 0, none⟩) N cap, .int .i64 last] ∧ B ≤ b ∧ RowAt w b 3 (refL N f ++ pad) ∧ N ≤ cap ∧ cap ≤ maxLen
theorem newAgg_stable (B N : Nat) (last : Int) (f : Nat → Nat) : ∀ u, StableF (fun u u' => Below u.heap.size u u') (NewAgg B N last f u) := by
  rintro u w w' hb ⟨b, c, p, rfl, h0, h, h1⟩
  exact ⟨b, c, p, rfl, h0, h.next hb, h1⟩
def NewX (B N : Nat) (last : Int) (f : Nat → Nat) (u : Value) (w : World) : Prop := ∃ q g, u = .pointer (some ⟨q, 0, none⟩) ∧ B ≤ q ∧ B ≤ g ∧ XI w q g N last f
theorem newX_stable (B N : Nat) (last : Int) (f : Nat → Nat) : ∀ u, StableF (fun u u' => Below u.heap.size u u') (NewX B N last f u) := by
  rintro u w w' hb ⟨q, g, rfl, h0, h1, h2⟩
  exact ⟨q, g, rfl, h0, h1, h2.next hb⟩
theorem runs_app {P : Program} {w w' : World} {o : Oper} {a : Act} {v y v' : Value} {R : Value → World → Prop} (s x : Operand) (t ty : TypeId)
    (ho : o.op = .call { callee := .builtin .append, args := #[s, x], argTypes := #[t, t] }) (hty : o.type = ty) (hr : (Builtin.append_ #[t, t] ty #[v, y]).run P w = .ok v' w') (hs : a.eval s = v) (hx : a.eval x = y) (h : R v' w') : Runs P o a w R := by
  unfold Runs execOp
  subst hty
  simp only [ho, resolve, invoke, builtin, Sem.run_bind, Sem.run_pure, Result.andThen_ok, List.map_toArray, List.map_cons, List.map_nil, hs, hx, hr]
  exact h
set_option maxHeartbeats 1000000 in
theorem rcopy_any (w : World) (q g N : Nat) (last : Int) (f : Nat → Nat) (h : XI w q g N last f) (h0 : 0 < N) (hN : N ≤ 8192) :
    Calls Try.prog 18 #[.pointer (some ⟨q, 0, none⟩)] w fun e w' => ∃ q' g', e = .returned (.pointer (some ⟨q', 0, none⟩)) ∧ XI w' q' g' N last f ∧ w.heap.size ≤ q' ∧ w.heap.size ≤ g' ∧ Below w.heap.size w w' := by
  have hX := h.next ((Below.refl _ _).drew)
  have hsz : w.drew.heap.size = w.heap.size := rfl
  have hBd : Below w.heap.size w w.drew := (Below.refl _ _).drew
  clear h
  go_enter Try.func18, Try.ntmps18
  go_wp2_with fail
  refine wp_region_parts (by kernel_rfl) (by kernel_rfl) ?_
  obtain ⟨B, hB⟩ : ∃ B, B = w.heap.size := ⟨_, rfl⟩
  rw [← hB] at hsz hBd
  generalize w.drew = W at *
  have HB := Lib.hid hB
  have HBd := Lib.hid hBd
  have HX := Lib.hid hX
  have HSZ := Lib.hid hsz
  obtain ⟨cap, c0, hc1, hc2⟩ := hX.c0
  have c1 := hX.c1
  have hql := hX.ltq
  clear hX hB hBd hsz
  apply regL_lq W.heap.size
  intro D hD hn
  have p0 : ∀ x : Bd W.heap.size W D, x.val.cell? ⟨q, 0, none⟩ = some (.slice (some ⟨g, 0, none⟩) N cap) := fun x => (x.ok.cell hql).trans c0
  have p1 : ∀ x : Bd W.heap.size W D, x.val.cell? ⟨q, 1, none⟩ = some (.int .i64 last) := fun x => (x.ok.cell hql).trans c1
  apply wpLQ_loose (NewRow 3 []) (newRow_stable _ _) (Nat.le_refl _) hD rfl
  · intro x _
    unfold Runs
    go_simp
    exact newRow_new x.val 3 []
  intro u0
  simp only [Act.put, List.setIfInBounds_toArray, List.set_cons_succ, List.set_cons_zero]
  iterate 4 (apply wpLQ_pin rfl rfl; intro K hK; go_big_quiet_op; go_big_quiet_on; apply And.intro rfl)
  apply wpLQ_loose (NewRef W.heap.size N f) (newRef_stable _ _ _) (Nat.le_refl _) hD rfl
  · intro x hx
    obtain ⟨b, rfl, hb⟩ := Facts.head hx (anc_of (by kernel_rfl))
    obtain ⟨cap', pad, hr, h1, h2⟩ := app45 x.val b g N cap f (fun k hk => (HX.out.next x.ok).at k hk) h0 hN
    refine runs_app (.tmp 3) (.tmp 7) 45 45 rfl rfl hr rfl rfl ⟨⟨_, cap', pad, rfl, x.ok.size, RowAt.new x.val.drew 3 _, h1, h2⟩, ?_⟩
    exact ((Below.refl _ _).drew).alloc (Nat.le_refl _) _
  intro u1
  simp only [Act.put, List.setIfInBounds_toArray, List.set_cons_succ, List.set_cons_zero]
  iterate 4 (apply wpLQ_pin rfl rfl; intro K hK; go_big_quiet_op; go_big_quiet_on; apply And.intro rfl)
  apply wpLQ_loose (NewAgg W.heap.size N last f) (newAgg_stable _ _ _ _) (Nat.le_refl _) hD rfl
  · intro x hx
    obtain ⟨b, c, p, rfl, h1⟩ := Facts.head hx (anc_of (by kernel_rfl))
    unfold Runs
    go_simp
    exact ⟨⟨b, c, p, rfl, h1⟩, Below.refl _ _⟩
  intro u2
  simp only [Act.put, List.setIfInBounds_toArray, List.set_cons_succ, List.set_cons_zero]
  apply wpLQ_loose (NewX W.heap.size N last f) (newX_stable _ _ _ _) (Nat.le_refl _) hD rfl
  · intro x hx
    obtain ⟨b, c, p, rfl, h1, h2, h3⟩ := Facts.head hx (anc_of (by kernel_rfl))
    unfold Runs
    go_simp
    have hal : Below x.val.heap.size x.val (x.val.alloc (.cells #[.slice (some ⟨b, 0, none⟩) N c, .int .i64 last] 47)) := (Below.refl _ _).alloc (Nat.le_refl _) _
    exact ⟨⟨_, b, rfl, x.ok.size, h1, c, p, RowAt.new x.val 47 [.slice (some ⟨b, 0, none⟩) N c, .int .i64 last], h2.next hal, h3⟩, hal⟩
  intro u3
  simp only [Act.put, List.setIfInBounds_toArray, List.set_cons_succ, List.set_cons_zero]
  apply wpLQ_loose (NewX W.heap.size N last f) (newX_stable _ _ _ _) (Nat.le_refl _) hD rfl
  · intro x hx
    obtain ⟨q', g', rfl, h1⟩ := Facts.head hx (anc_of (by kernel_rfl))
    unfold Runs
    go_simp
    exact ⟨⟨q', g', rfl, h1⟩, Below.refl _ _⟩
  intro u4
  simp only [Act.put, List.setIfInBounds_toArray, List.set_cons_succ, List.set_cons_zero]
  apply wpLQ_nil (by simp)
  intro w6 hb hF
  obtain ⟨q', g', rfl, hq1, hg1, hxx⟩ := hF (12, NewX W.heap.size N last f u4) (.inl rfl)
  go_wp2_with fail
  refine bodyPost_ret (by simp [results, Try.results18, go_sem]; rfl) rfl ?_
  rw [HSZ.out, HB.out] at hq1 hg1 hb
  exact ⟨q', g', rfl, hxx, hq1, hg1, (HB.out ▸ HBd.out).trans hb⟩
end Go.Proofs.Ytbkbfkaklhojgaa
