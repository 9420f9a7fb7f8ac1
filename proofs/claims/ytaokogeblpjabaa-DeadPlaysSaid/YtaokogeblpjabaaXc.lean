/- The document's cut, Give. -/
import Derived.Test.YtaokogeblpjabaaXb
import Derived.IntWalk
import Derived.Deep.RegionLaw
import Derived.Deep.DrawnRows
namespace Go.Proofs.Ytaokogeblpjabaa
open Go.RowKit
theorem step_app {P : Program} {w w' : World} {ops : Array Oper} {o : Oper} {a : Act} {K : Act → World → Prop} {Q : Exit → Act → World → Prop} {E : Prop} {v y v' : Value} (hg : o.guard = none) (s x : Operand) (t ty : TypeId)
    (ho : o.op = .call { callee := .builtin .append, args := #[s, x], argTypes := #[t, t] }) (hty : o.type = ty) (hr : (Builtin.append_ #[t, t] ty #[v, y]).run P w = .ok v' w') (hs : a.eval s = v) (hx : a.eval x = y) (h : K (a.put o.dst v') w') :
    if Region.wanted o (yielded ops a.tmps) = true then Oper.wp P o a w K Q else E := by
  have hw : Region.wanted o (yielded ops a.tmps) = true := by simp [Region.wanted, hg]
  rw [if_pos hw]
  unfold Oper.wp execOp
  subst hty
  simp only [ho, resolve, invoke, builtin, Sem.run_bind, Sem.run_pure, Result.andThen_ok, List.map_toArray, List.map_cons, List.map_nil, hs, hx, hr]
  exact h
/-- What cut comes to, step by step. -/
theorem XT.cutRun {w : World} {q g : Nat} {L : List Pr} (h : XT w q g L) (hL : L.length ≤ 60000) (i : Nat) (hi : i < L.length) :
    ∃ cap A1 c1 w2, w.cell? ⟨q, 0, none⟩ = some (.slice (some ⟨g, 0, none⟩) L.length cap) ∧ L.length ≤ cap ∧ cap ≤ maxLen ∧
      (Builtin.append_ #[41, 41] 41 #[.slice (some ⟨w.heap.size, 0, none⟩) 0 0, .slice (some ⟨g, 0, none⟩) i cap]).run Try.prog (w.alloc (.cells #[] 61)) = .ok (.slice A1 i c1) w2 ∧ w2.cell? ⟨q, 0, none⟩ = some (.slice (some ⟨g, 0, none⟩) L.length cap) ∧
      ∀ (ad : Addr) (c2 : Nat), (i + 1 < L.length → ad = ⟨g, (i + 1) * 2, none⟩) → ∃ A3 c3 w3 g', (Builtin.append_ #[41, 41] 41 #[.slice A1 i c1, .slice (some ad) (L.length - (i + 1)) c2]).run Try.prog w2 = .ok (.slice A3 (i + (L.length - (i + 1))) c3) w3 ∧
        w3.frozen? ⟨q, 0, none⟩ = false ∧ w3.cell? ⟨q, 0, none⟩ = some (.slice (some ⟨g, 0, none⟩) L.length cap) ∧ XT (w3.setCell ⟨q, 0, none⟩ (.slice A3 (i + (L.length - (i + 1))) c3)) q g' (L.eraseIdx i) ∧ Fr (QG q g) w (w3.setCell ⟨q, 0, none⟩ (.slice A3 (i + (L.length - (i + 1))) c3)) ∧ w.heap.size ≤ g' := by
  obtain ⟨v, hr, ho, hg, _⟩ := h
  rcases ho.2 with ⟨rfl, h0⟩ | ⟨g', cap, cur, rfl, hb, hh, h1, h2, h3, h4⟩
  · omega
  obtain rfl : g' = g := hg g' rfl
  have hal : Below w.heap.size w (w.alloc (.cells #[] 61)) := (Below.refl _ _).alloc (Nat.le_refl _) _
  have hgl : g' < w.heap.size := (Array.getElem?_eq_some_iff.1 hh).1
  have hz : (w.alloc (.cells #[] 61)).heap.size = w.heap.size + 1 := by simp
  have hnew : (w.alloc (.cells #[] 61)).ownsRow 0 61 2 (.slice (some ⟨w.heap.size, 0, none⟩) ([] : List Pr).length 0) ([] : List Pr).length (flat []) :=
    ⟨rfl, .inr ⟨w.heap.size, 0, #[], rfl, by omega, by show (w.heap.push _)[w.heap.size]? = _; simp, by simp, by simp [maxLen], rfl, rfl⟩⟩
  have hcell : ∀ (W : World), Below w.heap.size w W → ∀ (k : Nat) (u : Value), (flat L)[k]? = some u → W.cell? ⟨g', k, none⟩ = some u := fun W hW k u hu => by
    have hk : k < (flat L).length := (List.getElem?_eq_some_iff.1 hu).1
    have e : W.cell? ⟨g', k, none⟩ = w.cell? ⟨g', k, none⟩ := hW.cell (p := ⟨g', k, none⟩) hgl
    rw [e, ho.cellAt k (by rw [flat_len] at hk; omega), hu]
  obtain ⟨A1, c1, w2, r1, o1, f1, k1⟩ := run_app2 (w.alloc (.cells #[] 61)) (.slice (some ⟨w.heap.size, 0, none⟩) 0 0) [] hnew ⟨g', 0, none⟩ cap (L.take i) (fun j u hu => by
    have e1 : (⟨g', 0, none⟩ : Addr).add j = ⟨g', j, none⟩ := by rw [Addr.add_mid, Nat.zero_add]
    rw [e1]
    refine hcell _ hal j u ?_
    rw [← flat_take, List.getElem?_take] at hu
    split at hu
    · exact hu
    · cases hu) (by simp; omega)
  have htl : (L.take i).length = i := by rw [List.length_take]; omega
  rw [List.nil_append] at o1
  simp only [List.length_nil, Nat.zero_add, htl] at r1 k1 o1
  have hfw2 : Fr (fun k => w.heap.size ≤ k) w w2 := (Fr.of_below hal).trans (f1.mono (fun k _ e => by cases e; exact Nat.le_refl _))
  have hb2 : Below w.heap.size w w2 := Fr.below hfw2 (Nat.le_refl _) (fun k e => e)
  have hr2 := hr.next hb2
  have hA1 : ∀ k, (Value.slice A1 i c1).ownBlock = some k → w.heap.size ≤ k := fun k hk => by
    rcases k1 with e | e
    · rw [e] at hk; cases hk; exact Nat.le_refl _
    · rw [e] at hk; cases hk; rw [hz]; omega
  refine ⟨cap, A1, c1, w2, hr.cell 0, h1, h2, r1, hr2.cell 0, fun ad c2 had => ?_⟩
  have o1' : w2.ownsRow 0 61 2 (.slice A1 i c1) (L.take i).length (flat (L.take i)) := by rw [htl]; exact o1
  have hdl : (L.drop (i + 1)).length = L.length - (i + 1) := List.length_drop
  obtain ⟨A3, c3, w3, r3, o3, f3, k3⟩ := run_app2 w2 (.slice A1 i c1) (L.take i) o1' ad c2 (L.drop (i + 1)) (fun j u hu => by
    have hlt : i + 1 < L.length := by
      have := (List.getElem?_eq_some_iff.1 hu).1
      rw [flat_len, hdl] at this
      omega
    rw [had hlt]
    have e1 : (⟨g', (i + 1) * 2, none⟩ : Addr).add j = ⟨g', (i + 1) * 2 + j, none⟩ := Addr.add_mid ..
    rw [e1]
    refine hcell _ hb2 _ u ?_
    rw [← flat_drop, List.getElem?_drop] at hu
    exact hu) (by rw [htl, hdl]; omega)
  simp only [htl, hdl] at r3 k3 o3
  have hA3 : ∀ k, (Value.slice A3 (i + (L.length - (i + 1))) c3).ownBlock = some k → w.heap.size ≤ k := fun k hk => by
    rcases k3 with e | e
    · rw [e] at hk; exact hA1 k hk
    · rw [e] at hk; cases hk; exact hb2.size
  have hfw3 : Fr (fun k => w.heap.size ≤ k) w w3 := hfw2.trans (f3.mono (fun k _ e => hA1 k e))
  have hb3 : Below w.heap.size w w3 := Fr.below hfw3 (Nat.le_refl _) (fun k e => e)
  have hr3 := hr.next hb3
  have hne3 := row_ne hr3 o3
  have hfs : Fr (· = q) w3 (w3.setCell ⟨q, 0, none⟩ (.slice A3 (i + (L.length - (i + 1))) c3)) := (Fr.refl (· = q) w3).setCell (b := q) rfl _
  have hs3 : w.heap.size + 1 ≤ w3.heap.size := by have := f1.size; have := f3.size; omega
  obtain ⟨g2, hg2, hgn, hgs⟩ : ∃ g2, (∀ k, (Value.slice A3 (i + (L.length - (i + 1))) c3).ownBlock = some k → k = g2) ∧ w.heap.size ≤ g2 ∧ g2 < w3.heap.size := by
    cases e : (Value.slice A3 (i + (L.length - (i + 1))) c3).ownBlock with
    | none => exact ⟨w.heap.size, (fun k hk => by cases hk), Nat.le_refl _, by omega⟩
    | some k => exact ⟨k, (fun k' hk => by cases hk; rfl), hA3 k e, by
        rcases o3.2 with ⟨e', h0⟩ | ⟨gg, cap', cur', e', hb', hh', _⟩
        · rw [e'] at e; cases e
        · rw [e'] at e
          cases e
          exact (Array.getElem?_eq_some_iff.1 hh').1⟩
  refine ⟨A3, c3, w3, g2, r3, hr3.free 0, hr3.cell 0, ⟨_, hr3.set 0 _, ?_, hg2, by simpa using hgs⟩, ?_, hgn⟩
  · rw [List.eraseIdx_eq_take_drop_succ]
    have e2 : (L.take i ++ L.drop (i + 1)).length = i + (L.length - (i + 1)) := by rw [List.length_append, htl, hdl]
    rw [e2] at o3 ⊢
    rcases o3.2 with ⟨e, h0⟩ | ⟨gg, cap', cur', e, hb', hh', hrest⟩
    · exact ⟨o3.1, .inl ⟨e, h0⟩⟩
    · refine ⟨o3.1, .inr ⟨gg, cap', cur', e, hb', ?_, hrest⟩⟩
      have : gg ≠ q := hne3 gg (by rw [e]; rfl)
      rw [hfs.block gg (Array.getElem?_eq_some_iff.1 hh').1 this]
      exact hh'
  · exact (Fr.of_below hb3 (M := QG q g')).trans (hfs.mono (fun _ _ e => .inl e))
attribute [local go_sem ↓] Go.wp_at_zero Go.wp_at_succ
set_option maxHeartbeats 4000000 in
theorem cut_any (w : World) (q g : Nat) (L : List Pr) (h : XT w q g L) (hL : L.length ≤ 60000) (i : Nat) (hi : i < L.length) :
    Calls Try.prog 43 #[.pointer (some ⟨q, 0, none⟩), .int .i64 i] w fun e w' => e = .returned (.tuple #[]) ∧ XGo w q g (L.eraseIdx i) w' := by
  have hb0 : Below w.heap.size w w.drew := (Below.refl _ _).drew
  obtain ⟨cap, A1, c1, w2, c0', hc1, hc2, hr1, c02, hr2⟩ := (h.next hb0).cutRun hL i hi
  have c0 : w.cell? ⟨q, 0, none⟩ = some (.slice (some ⟨g, 0, none⟩) L.length cap) := c0'
  have HB0 := Lib.hid hb0
  have hql : q < w.heap.size := h.lt
  have k1 : (w.alloc (.cells #[] 61)).cell? ⟨q, 0, none⟩ = some (.slice (some ⟨g, 0, none⟩) L.length cap) := (((Below.refl w.heap.size w).alloc (Nat.le_refl _) (.cells #[] 61)).cell hql).trans c0
  have HR1 : Hid ((Builtin.append_ #[41, 41] 41 #[.slice (some ⟨w.heap.size, 0, none⟩) 0 0, .slice (some ⟨g, 0, none⟩) i cap]).run Try.prog (w.alloc (.cells #[] 61)).drew = .ok (.slice A1 i c1) w2) := Lib.hid hr1
  have hm : cap ≤ 9223372036854775807 := by unfold maxLen at hc2; exact hc2
  have hcl : (L.length : Int) ≤ (cap : Int) := by omega
  have i0 : (0 : Int) ≤ (i : Int) := by omega
  have i1 : (i : Int) ≤ (cap : Int) := by omega
  have i2 : IntKind.i64.wrap ((i : Int) + 1) = (i : Int) + 1 := IntWalk.i64_in _ (by omega)
  have i3 : (0 : Int) ≤ (i : Int) + 1 := by omega
  have i4 : ((i : Int) + 1).toNat = i + 1 := by omega
  have i5 : (i : Int) + 1 ≤ (L.length : Int) := by omega
  clear hr1 c0' hL
  have i6 : (i : Int) ≤ (i : Int) + 1 := by omega
  by_cases hcap : cap = i + 1
  · subst hcap
    obtain ⟨A3, c3, w3, g', hr3, hfz, hc3, hx, hf, hgn⟩ := hr2 ⟨g, 0, none⟩ (i + 1 - (i + 1)) (fun h => by omega)
    rw [Nat.sub_self, show L.length - (i + 1) = 0 by omega] at hr3
    rw [show L.length - (i + 1) = 0 by omega] at hx hf
    have HR3 := Lib.hid hr3
    have HP : Hid (XGo w q g (L.eraseIdx i) (w3.setCell ⟨q, 0, none⟩ (.slice A3 (i + 0) c3))) := Lib.hid ⟨g', hx, (Fr.of_below HB0.out (M := QG q g)).trans hf, .inr (Nat.le_trans HB0.out.size hgn)⟩
    clear hr2 hr3 hx hf hgn h hb0
    generalize i + 0 = nn at *
    go_enter Try.func43, Try.ntmps43
    go_wp2_with fail
    go_region_law (first
      | (refine step_app rfl (.tmp 5) (.tmp 11) 41 41 rfl rfl HR1.out (by rfl) (by rfl) ?_)
      | (refine step_app rfl (.tmp 12) (.tmp 19) 41 41 rfl rfl HR3.out (by rfl) (by rfl) ?_))
    all_goals go_end0
    all_goals exact ⟨rfl, HP.out⟩
  · obtain ⟨A3, c3, w3, g', hr3, hfz, hc3, hx, hf, hgn⟩ := hr2 ⟨g, (i + 1) * 2, none⟩ (cap - (i + 1)) (fun _ => rfl)
    have HR3 := Lib.hid hr3
    have HP : Hid (XGo w q g (L.eraseIdx i) (w3.setCell ⟨q, 0, none⟩ (.slice A3 (i + (L.length - (i + 1))) c3))) := Lib.hid ⟨g', hx, (Fr.of_below HB0.out (M := QG q g)).trans hf, .inr (Nat.le_trans HB0.out.size hgn)⟩
    clear hr2 hr3 hx hf hgn h hb0
    generalize i + (L.length - (i + 1)) = nn at *
    go_enter Try.func43, Try.ntmps43
    go_wp2_with fail
    go_region_law (first
      | (refine step_app rfl (.tmp 5) (.tmp 11) 41 41 rfl rfl HR1.out (by rfl) (by rfl) ?_)
      | (refine step_app rfl (.tmp 12) (.tmp 19) 41 41 rfl rfl HR3.out (by rfl) (by rfl) ?_))
    all_goals go_end0
    all_goals exact ⟨rfl, HP.out⟩
end Go.Proofs.Ytaokogeblpjabaa
