/- room. -/
import Derived.Test.YtefjpljjdjecjaaYd
namespace Go.Proofs.Ytefjpljjdjecjaa
open Go.RowKit
/-- What room decides. -/
def rmC (p : Pu) (g : Bool) : Bool := decide (0 < (p.a.length : Int) ∧ ((p.b.length : Int) = 0 ∨ p.target < p.a.length ∨ (g = true ∧ (p.a.length : Int) = p.target)))
set_option maxHeartbeats 2000000 in
set_option maxRecDepth 100000 in
theorem xroom_any (w : World) (xb : Nat) (p : Pu) (h : XR w xb p) (hla : p.a.length ≤ 4000) (hlb : p.b.length ≤ 4000) (hlc : p.c.length ≤ 4000) (hld : p.d.length ≤ 4000) (hr : 1 ≤ p.room) (g : Bool) :
    Calls Try.prog 37 #[.pointer (some ⟨xb, 0, none⟩), .bool g] w fun e w' => e = .returned (.tuple #[]) ∧ XR w' xb (roomP p g) ∧ Fr (fun k => k = xb) w w' := by
  obtain ⟨v1, v2, v3, v4, h⟩ := h
  obtain ⟨A1, c1, rfl, h11, h12⟩ := h.ha.shape
  obtain ⟨A2, c2, rfl, h21, h22⟩ := h.hb.shape
  have HX := Lib.hid h
  have k0 := h.row.cell 0
  have k1 := h.row.cell 1
  have k2 := h.row.cell 2
  have k3 := h.row.cell 3
  simp at k0 k1 k2 k3
  obtain ⟨a, ha⟩ : ∃ a, a = p.a.length := ⟨_, rfl⟩
  obtain ⟨b, hb⟩ : ∃ b, b = p.b.length := ⟨_, rfl⟩
  obtain ⟨r, hrr⟩ : ∃ r, r = p.room := ⟨_, rfl⟩
  obtain ⟨t, htt⟩ : ∃ t, t = p.target := ⟨_, rfl⟩
  rw [← ha] at HX k2 h11 hla
  rw [← hb] at HX k3 h21 hlb
  rw [← hrr] at k0 hr
  rw [← htt] at k1
  have HA' := Lib.hid ha
  have HB' := Lib.hid hb
  have HR' := Lib.hid hrr
  have HT' := Lib.hid htt
  clear h ha hb hrr htt
  have hxb := HX.out.row.lt
  go_enter Try.func37, Try.ntmps37
  go_wp2_with fail
  refine wp_region_parts (by kernel_rfl) (by kernel_rfl) ?_
  have hb0 : Below w.heap.size w w.drew := (Below.refl _ _).drew
  generalize w.drew = W at *
  apply regL_lq W.heap.size
  intro D hD hn
  have p0 := fun z : Bd W.heap.size W D => ((bt hb0 z.ok).cell (p := ⟨xb, 0, none⟩) hxb).trans k0
  have p3 := fun z : Bd W.heap.size W D => ((bt hb0 z.ok).cell (p := ⟨xb, 3, none⟩) hxb).trans k3
  repeat (apply wpLQ_pin rfl rfl; intro K hK; go_big_quiet_op; go_big_quiet_on; apply And.intro rfl)
  apply wpLQ_nil (by simp)
  intro W1 hb1 _
  have HBB := Lib.hid (bt hb0 hb1)
  have HX1 := Lib.hid (HX.out.next HBB.out)
  clear p0 p3 hb1 hn hD hb0 k0 k1 k2 k3 HX hxb
  have k1 := HX1.out.row.cell 1
  have k2 := HX1.out.row.cell 2
  have k3 := HX1.out.row.cell 3
  have k4 := HX1.out.row.cell 4
  have k5 := HX1.out.row.cell 5
  have f2 := HX1.out.row.free 2
  have f3 := HX1.out.row.free 3
  simp at k1 k2 k3 k4 k5
  rw [← HT'.out] at k1
  by_cases hlt : (a : Int) + b < r
  · have HP : Hid (roomP p g = p) := Lib.hid (by unfold roomP; rw [if_pos (by rw [← HA'.out, ← HB'.out, ← HR'.out]; exact hlt)])
    go_wp2_with fail
    refine bodyPost_ret (results_none rfl _ _ _) rfl ?_
    exact ⟨rfl, by rw [HP.out]; exact ⟨_, _, _, _, HX1.out⟩, Fr.of_below HBB.out⟩
  · have HP : Hid (roomP p g = if rmC p g then ghost02 p else ghost13 p) := Lib.hid (by
      unfold roomP rmC; rw [if_neg (by rw [← HA'.out, ← HB'.out, ← HR'.out]; exact hlt)]; simp only [decide_eq_true_eq])
    have HC : Hid (rmC p g = decide (0 < (a : Int) ∧ ((b : Int) = 0 ∨ t < a ∨ (g = true ∧ (a : Int) = t)))) := Lib.hid (by unfold rmC; rw [HA'.out, HB'.out, HT'.out])
    have hlt' : decide ((a : Int) + b < r) = false := by simpa using hlt
    go_upto_region 2 with fail
    go_cut [50] (fun s50 wx => s50 = .bool (rmC p g) ∧ wx = W1)
    case first =>
      cases g
      all_goals go_wp2_with fail
      all_goals go_meet
      all_goals exact ⟨congrArg Value.bool (by rw [HC.out, Bool.eq_iff_iff]; simp; try omega), rfl⟩
    case rest =>
      obtain ⟨rfl, rfl⟩ := hcut
      have HK : Hid (r ≤ (a : Int) + b) := Lib.hid (by omega)
      clear k1 k2 k3 k4 k5 f2 f3 hlt hlt'
      cases hg : rmC p g with
      | true =>
        have HG := Lib.hid hg
        have ha0 : 0 < a := by have := HC.out; rw [hg] at this; have := of_decide_eq_true this.symm; omega
        clear hg
        go_wp2_with fail
        refine wp_region_parts (by kernel_rfl) (by kernel_rfl) ?_
        have hb0 : Below wc.heap.size wc wc.drew := (Below.refl _ _).drew
        generalize wc.drew = V0 at *
        have HV0 := Lib.hid (HX1.out.next hb0)
        have HF0 : Hid (Fr (fun k => k = xb) w V0) := Lib.hid ((Fr.of_below HBB.out).trans (Fr.of_below hb0))
        clear hb0
        obtain ⟨e, he⟩ : ∃ e, p.a[0]? = some e := ⟨p.a[0]'(by rw [← HA'.out]; omega), List.getElem?_eq_getElem _⟩
        obtain ⟨b1, off, hAeq, hbl, _, hat⟩ := HV0.out.ha.at 0 e he
        subst hAeq
        have q0 : V0.cell? ⟨b1, off, none⟩ = some (.int .i64 e.1) := by have := hat 0 (by omega); simpa [had] using this
        have q1 := HV0.out.row.cell 2
        have q2 := HV0.out.row.cell 4
        have hxb := HV0.out.row.lt
        simp at q1 q2
        have HE := Lib.hid he
        clear hat he
        obtain ⟨E, hE⟩ : ∃ E, E = had (e.1, none) := ⟨_, rfl⟩
        have HEB : Hid (Try.prog.built 78 [(0, .int .i64 e.1)] = some E.toArray) := Lib.hid (by rw [hE]; exact built78a e.1)
        have HEE := Lib.hid hE
        clear hE
        apply regL_lq V0.heap.size
        intro D hD hn
        have p0 := fun z : Bd V0.heap.size V0 D => (z.ok.cell (p := ⟨b1, off, none⟩) hbl).trans q0
        have p1 := fun z : Bd V0.heap.size V0 D => (z.ok.cell (p := ⟨xb, 2, none⟩) hxb).trans q1
        have p2 := fun z : Bd V0.heap.size V0 D => (z.ok.cell (p := ⟨xb, 4, none⟩) hxb).trans q2
        iterate 12 (apply wpLQ_pin rfl rfl; intro K hK; go_big_quiet_op; go_big_quiet_on; apply And.intro rfl)
        apply wpLQ_at (.agg E.toArray) (Nat.le_refl _) hD rfl
        · intro z _
          exact runs_buildH (t := 78) (parts := #[(0, .tmp 62)]) rfl [(0, .int .i64 e.1)] (by simp only [List.map_toArray, List.map_cons, List.map_nil]; rfl) HEB.out ⟨rfl, Below.refl _ _⟩
        simp only [Act.put, List.setIfInBounds_toArray, List.set_cons_succ, List.set_cons_zero]
        apply wpLQ_loose (HAv (p.c ++ [(e.1, none)])) (hav_stable _) (Nat.le_refl _) hD rfl
        · intro x _
          unfold Runs
          go_simp
          have hcall := with_any x.val _ p.c (HV0.out.next x.ok).hc (by omega) (e.1, none)
          rw [← HEE.out] at hcall
          refine hcall.mono ?_
          rintro e2 w4 ⟨u, rfl, hu, hb2⟩
          exact ⟨u, rfl, hu, hb2⟩
        intro u
        simp only [Act.put, List.setIfInBounds_toArray, List.set_cons_succ, List.set_cons_zero]
        iterate 2 (apply wpLQ_pin rfl rfl; intro K hK; go_big_quiet_op; go_big_quiet_on; apply And.intro rfl)
        apply wpLQ_end (bar_of (by kernel_rfl))
        intro V3 hb3 hFF
        have hu : HA V3 u (p.c ++ [(e.1, none)]) := hFF (13, HAv (p.c ++ [(e.1, none)]) u) (by simp [Facts.add])
        obtain ⟨A9, c9, rfl, h91, h92⟩ := hu.shape
        generalize (_ ++ [(e.1, none)] : List He).length = nn at *
        have HU3 := Lib.hid hu
        have HV3 := Lib.hid (HV0.out.next hb3)
        have HF3 := Lib.hid (HF0.out.trans (Fr.of_below hb3))
        clear p0 p1 p2 q0 q1 q2 hFF hu
        have q3 := HV3.out.row.cell 4
        have f3 := HV3.out.row.free 4
        simp at q3
        clear hb3 hn hD
        apply regL_one (bar_of (by kernel_rfl)) rfl
        unfold Oper.wp
        go_simp
        apply regL_nil
        have HV4 := Lib.hid (HV3.out.setC HU3.out)
        have HF4 : Hid (Fr (fun k => k = xb) w (V3.setCell ⟨xb, 4, none⟩ (.slice A9 nn c9))) := Lib.hid (HF3.out.setCell (b := xb) rfl (.slice A9 nn c9))
        clear q3 f3
        generalize hWe : V3.setCell _ _ = V4 at *
        clear hWe
        have k1 := HV4.out.row.cell 2
        have f1 := HV4.out.row.free 2
        simp at k1
        go_wp2_with fail
        · go_end0
          have ht := HV4.out.ha.tail1 (by omega) (by assumption)
          refine ⟨rfl, ?_, HF4.out.setCell (b := xb) rfl _⟩
          rw [HP.out, HG.out]
          have hgo : ghost02 p = { p with a := p.a.tail, c := p.c ++ [(e.1, none)] } := by
            have := HE.out
            unfold ghost02
            cases hp : p.a with
            | nil => rw [hp] at this; simp at this
            | cons x L => rw [hp] at this; simp at this; rw [this]; rfl
          simp only [if_true]
          rw [hgo]
          exact ⟨_, _, _, _, HV4.out.setA ht⟩
        · go_end0
          have ht := HV4.out.ha.tail2 (by omega) (by assumption)
          refine ⟨rfl, ?_, HF4.out.setCell (b := xb) rfl _⟩
          rw [HP.out, HG.out]
          have hgo : ghost02 p = { p with a := p.a.tail, c := p.c ++ [(e.1, none)] } := by
            have := HE.out
            unfold ghost02
            cases hp : p.a with
            | nil => rw [hp] at this; simp at this
            | cons x L => rw [hp] at this; simp at this; rw [this]; rfl
          simp only [if_true]
          rw [hgo]
          exact ⟨_, _, _, _, HV4.out.setA ht⟩
      | false =>
        have HG := Lib.hid hg
        have hb0' : 0 < b := by
          have h := HC.out; rw [hg] at h; have h := of_decide_eq_false h.symm; have := HK.out
          rcases Nat.eq_zero_or_pos b with e | e
          · exfalso; apply h; exact ⟨by omega, .inl (by omega)⟩
          · exact e
        clear hg
        go_wp2_with fail
        refine wp_region_parts (by kernel_rfl) (by kernel_rfl) ?_
        have hb0 : Below wc.heap.size wc wc.drew := (Below.refl _ _).drew
        generalize wc.drew = V0 at *
        have HV0 := Lib.hid (HX1.out.next hb0)
        have HF0 : Hid (Fr (fun k => k = xb) w V0) := Lib.hid ((Fr.of_below HBB.out).trans (Fr.of_below hb0))
        clear hb0
        obtain ⟨e, he⟩ : ∃ e, p.b[0]? = some e := ⟨p.b[0]'(by rw [← HB'.out]; omega), List.getElem?_eq_getElem _⟩
        obtain ⟨b1, off, hAeq, hbl, _, hat⟩ := HV0.out.hb.at 0 e he
        subst hAeq
        have q0 : V0.cell? ⟨b1, off, none⟩ = some (.int .i64 e.1) := by have := hat 0 (by omega); simpa [had] using this
        have q1 := HV0.out.row.cell 3
        have q2 := HV0.out.row.cell 5
        have hxb := HV0.out.row.lt
        simp at q1 q2
        have HE := Lib.hid he
        clear hat he
        obtain ⟨E, hE⟩ : ∃ E, E = had (e.1, none) := ⟨_, rfl⟩
        have HEB : Hid (Try.prog.built 78 [(0, .int .i64 e.1)] = some E.toArray) := Lib.hid (by rw [hE]; exact built78a e.1)
        have HEE := Lib.hid hE
        clear hE
        apply regL_lq V0.heap.size
        intro D hD hn
        have p0 := fun z : Bd V0.heap.size V0 D => (z.ok.cell (p := ⟨b1, off, none⟩) hbl).trans q0
        have p1 := fun z : Bd V0.heap.size V0 D => (z.ok.cell (p := ⟨xb, 3, none⟩) hxb).trans q1
        have p2 := fun z : Bd V0.heap.size V0 D => (z.ok.cell (p := ⟨xb, 5, none⟩) hxb).trans q2
        iterate 12 (apply wpLQ_pin rfl rfl; intro K hK; go_big_quiet_op; go_big_quiet_on; apply And.intro rfl)
        apply wpLQ_at (.agg E.toArray) (Nat.le_refl _) hD rfl
        · intro z _
          exact runs_buildH (t := 78) (parts := #[(0, .tmp 86)]) rfl [(0, .int .i64 e.1)] (by simp only [List.map_toArray, List.map_cons, List.map_nil]; rfl) HEB.out ⟨rfl, Below.refl _ _⟩
        simp only [Act.put, List.setIfInBounds_toArray, List.set_cons_succ, List.set_cons_zero]
        apply wpLQ_loose (HAv (p.d ++ [(e.1, none)])) (hav_stable _) (Nat.le_refl _) hD rfl
        · intro x _
          unfold Runs
          go_simp
          have hcall := with_any x.val _ p.d (HV0.out.next x.ok).hd (by omega) (e.1, none)
          rw [← HEE.out] at hcall
          refine hcall.mono ?_
          rintro e2 w4 ⟨u, rfl, hu, hb2⟩
          exact ⟨u, rfl, hu, hb2⟩
        intro u
        simp only [Act.put, List.setIfInBounds_toArray, List.set_cons_succ, List.set_cons_zero]
        iterate 2 (apply wpLQ_pin rfl rfl; intro K hK; go_big_quiet_op; go_big_quiet_on; apply And.intro rfl)
        apply wpLQ_end (bar_of (by kernel_rfl))
        intro V3 hb3 hFF
        have hu : HA V3 u (p.d ++ [(e.1, none)]) := hFF (13, HAv (p.d ++ [(e.1, none)]) u) (by simp [Facts.add])
        obtain ⟨A9, c9, rfl, h91, h92⟩ := hu.shape
        generalize (_ ++ [(e.1, none)] : List He).length = nn at *
        have HU3 := Lib.hid hu
        have HV3 := Lib.hid (HV0.out.next hb3)
        have HF3 := Lib.hid (HF0.out.trans (Fr.of_below hb3))
        clear p0 p1 p2 q0 q1 q2 hFF hu
        have q3 := HV3.out.row.cell 5
        have f3 := HV3.out.row.free 5
        simp at q3
        clear hb3 hn hD
        apply regL_one (bar_of (by kernel_rfl)) rfl
        unfold Oper.wp
        go_simp
        apply regL_nil
        have HV4 := Lib.hid (HV3.out.setD HU3.out)
        have HF4 : Hid (Fr (fun k => k = xb) w (V3.setCell ⟨xb, 5, none⟩ (.slice A9 nn c9))) := Lib.hid (HF3.out.setCell (b := xb) rfl (.slice A9 nn c9))
        clear q3 f3
        generalize hWe : V3.setCell _ _ = V4 at *
        clear hWe
        have k1 := HV4.out.row.cell 3
        have f1 := HV4.out.row.free 3
        simp at k1
        go_wp2_with fail
        · go_end0
          have ht := HV4.out.hb.tail1 (by omega) (by assumption)
          refine ⟨rfl, ?_, HF4.out.setCell (b := xb) rfl _⟩
          rw [HP.out, HG.out]
          have hgo : ghost13 p = { p with b := p.b.tail, d := p.d ++ [(e.1, none)] } := by
            have := HE.out
            unfold ghost13
            cases hp : p.b with
            | nil => rw [hp] at this; simp at this
            | cons x L => rw [hp] at this; simp at this; rw [this]; rfl
          simp only [Bool.false_eq_true, if_false]
          rw [hgo]
          exact ⟨_, _, _, _, HV4.out.setB ht⟩
        · go_end0
          have ht := HV4.out.hb.tail2 (by omega) (by assumption)
          refine ⟨rfl, ?_, HF4.out.setCell (b := xb) rfl _⟩
          rw [HP.out, HG.out]
          have hgo : ghost13 p = { p with b := p.b.tail, d := p.d ++ [(e.1, none)] } := by
            have := HE.out
            unfold ghost13
            cases hp : p.b with
            | nil => rw [hp] at this; simp at this
            | cons x L => rw [hp] at this; simp at this; rw [this]; rfl
          simp only [Bool.false_eq_true, if_false]
          rw [hgo]
          exact ⟨_, _, _, _, HV4.out.setB ht⟩
end Go.Proofs.Ytefjpljjdjecjaa
