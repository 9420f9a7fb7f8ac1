/- Put: a new key, 2. -/
import Derived.Test.YtefjpljjdjecjaaYf
namespace Go.Proofs.Ytefjpljjdjecjaa
open Go.RowKit
set_option maxHeartbeats 4000000 in
set_option maxRecDepth 100000 in
theorem xput_n2 (w : World) (xb : Nat) (p : Pu) (h : XR w xb p) (hw : WF p) (hn : NK p) (k c : Int) (ha : hasK p.a k = false) (hb : hasK p.b k = false) (hc : hasK p.c k = false) (hd : hasK p.d k = false) (hq : (p.a.length : Int) + p.c.length = p.room) (hl : ¬ (p.a.length : Int) < p.room) :
    Calls Try.prog 25 #[.pointer (some ⟨xb, 0, none⟩), .int .i64 k, .agg (blk c).toArray] w fun e w' => e = .returned (.tuple #[]) ∧ XR w' xb (putP p k c) ∧ Fr (fun k => k = xb) w w' := by
  have HWF := Lib.hid hw
  have HNK := Lib.hid hn
  have HH := Lib.hid h
  have q1 := hw.h1; have q2 := hw.h2; have q3 := hw.h3; have q4 := hw.rm; have q5 := hw.tg
  obtain ⟨Z, hZ⟩ : ∃ Z, Z = had (0, none) := ⟨_, rfl⟩
  obtain ⟨Y, hY⟩ : ∃ Y, Y = blk c := ⟨_, rfl⟩
  obtain ⟨E, hE⟩ : ∃ E, E = had (k, some c) := ⟨_, rfl⟩
  have z78 : ∀ w, (zeroValue 78).run Try.prog w = .ok (.agg Z.toArray) w := fun w => by rw [hZ]; exact zero78 w
  rw [← hY]
  have HZ := Lib.hid hZ
  have HY := Lib.hid hY
  have HE := Lib.hid hE
  have HB78 : Hid (Try.prog.built 78 [(0, .int .i64 k), (1, .agg Y.toArray)] = some E.toArray) := Lib.hid (by rw [hE, hY]; exact built78b k c)
  have HI78 : Hid ((Try.prog.info? 78).map (·.size) = some E.toArray.size) := Lib.hid (by rw [hE]; exact isize78 _)
  have HO78 : Hid (Z.toArray.size = E.toArray.size) := Lib.hid (by rw [hE, hZ]; simp [had_len])
  have H178 : Hid (E.toArray.all (·.oneCell') = true) := Lib.hid (by rw [hE]; exact hone _)
  have HYL : Hid (Y.length = 512) := Lib.hid (by rw [hY]; exact blk_len c)
  have hd5 : RowAt (w.alloc (.cells Y.toArray 30)) w.heap.size 30 Y := RowAt.new w 30 _
  have hdz : RowAt ((w.alloc (.cells Y.toArray 30)).alloc (.cells Z.toArray 78)) (w.heap.size + 1) 78 Z := by simpa using RowAt.new (w.alloc (.cells Y.toArray 30)) 78 Z
  have HD5 := Lib.hid hd5
  have HDZ := Lib.hid hdz
  have HXE := Lib.hid (hdz.setRow (l' := E))
  have HB1 : Hid (Below w.heap.size w ((w.alloc (.cells Y.toArray 30)).alloc (.cells Z.toArray 78))) := Lib.hid (bA (bA (Below.refl _ _) _) _)
  have HB2 : Hid (Below w.heap.size w (((w.alloc (.cells Y.toArray 30)).alloc (.cells Z.toArray 78)).setRow (w.heap.size + 1) E.toArray)) := Lib.hid (HB1.out.trans (below_setRow (by omega)))
  have HMA := Lib.hid ha
  have HMB := Lib.hid hb
  have HMC := Lib.hid hc
  have HMD := Lib.hid hd
  have HQ := Lib.hid hq
  have HL := Lib.hid hl
  clear ha hb hc hd hq hl h hw hn hZ hY hE hd5 hdz
  go_enter Try.func25, Try.ntmps25
  go_upto_region 2 with (first | (refine wpList_store_row rfl 78 (.tmp 6) (.tmp 14) rfl (w.heap.size + 1) E.toArray rfl rfl 78 Z.toArray HDZ.out HI78.out HO78.out H178.out ?_) | (refine wpList_loadR (x := .tmp 5) rfl rfl rfl (load30 HD5.out HYL.out) ?_) | (refine wpList_buildR (t := 78) (parts := #[(0, .tmp 12), (1, .tmp 13)]) (v := E) rfl rfl [(0, .int .i64 k), (1, .agg Y.toArray)] ?hl ?hbb ?_; (case hbb => with_reducible exact HB78.out); (case hl => simp only [List.map_toArray, List.map_cons, List.map_nil]; rfl)))
  obtain ⟨v1, v2, v3, v4, hv⟩ := HH.out.next HB2.out
  have hxl : xb < w.heap.size := by obtain ⟨_, _, _, _, h⟩ := HH.out; exact h.row.lt
  have hne : ¬ w.heap.size + 1 = xb := by omega
  have HNE := Lib.hid hne
  obtain ⟨xe, hxe⟩ : ∃ xe, xe = w.heap.size + 1 := ⟨_, rfl⟩
  rw [← hxe] at HXE HB2 HNE hv ⊢
  clear z78 HB1 HDZ HD5 HI78 HO78 H178 HB78 HYL HZ hne hxl hxe
  have HF := Lib.hid (Fr.of_below (M := fun k => k = xb) HB2.out)
  clear HB2
  generalize World.setRow _ _ _ = W at *
  obtain ⟨A1, c1, rfl, h11, h12⟩ := hv.ha.shape
  obtain ⟨A2, c2, rfl, h21, h22⟩ := hv.hb.shape
  obtain ⟨A3, c3, rfl, h31, h32⟩ := hv.hc.shape
  obtain ⟨A4, c4, rfl, h41, h42⟩ := hv.hd.shape
  obtain ⟨na, hna⟩ : ∃ na, na = p.a.length := ⟨_, rfl⟩
  obtain ⟨nb, hnb⟩ : ∃ nb, nb = p.b.length := ⟨_, rfl⟩
  obtain ⟨nc, hnc⟩ : ∃ nc, nc = p.c.length := ⟨_, rfl⟩
  obtain ⟨nd, hnd⟩ : ∃ nd, nd = p.d.length := ⟨_, rfl⟩
  rw [← hna, ← hnb, ← hnc, ← hnd] at hv
  rw [← hna] at h11
  rw [← hnb] at h21
  rw [← hnc] at h31
  rw [← hnd] at h41
  rw [← hna, ← hnb] at q1
  rw [← hna, ← hnc] at q2
  rw [← hna, ← hnb, ← hnc, ← hnd] at q3
  have HNA := Lib.hid hna
  have HNB := Lib.hid hnb
  have HNC := Lib.hid hnc
  have HND := Lib.hid hnd
  clear hna hnb hnc hnd
  have HV := Lib.hid hv
  have k2 := hv.row.cell 2
  have k4 := hv.row.cell 4
  have k5 := hv.row.cell 5
  simp at k2 k4 k5
  clear hv
  go_wp2_with fail
  have hcall := find_any W _ p.a HV.out.ha (by have := HNA.out; omega) k
  rw [fI_miss HMA.out] at hcall
  refine hcall.mono ?_
  rintro _ _ ⟨rfl, rfl⟩
  clear hcall
  have k3 := HV.out.row.cell 3
  simp at k3
  go_wp2_with fail
  have hcall := find_any W _ p.b HV.out.hb (by have := HNB.out; omega) k
  rw [fI_miss HMB.out] at hcall
  refine hcall.mono ?_
  rintro _ _ ⟨rfl, rfl⟩
  clear hcall
  go_wp2_with fail
  have hcall := find_any W _ p.c HV.out.hc (by have := HNC.out; omega) k
  rw [fI_miss HMC.out] at hcall
  refine hcall.mono ?_
  rintro _ _ ⟨rfl, rfl⟩
  clear hcall
  go_wp2_with fail
  have hcall := find_any W _ p.d HV.out.hd (by have := HND.out; omega) k
  rw [fI_miss HMD.out] at hcall
  refine hcall.mono ?_
  rintro _ _ ⟨rfl, rfl⟩
  clear hcall
  go_wp2_with fail
  clear k2 k3 k4 k5
  have r1 := q4.1; have r2 := q4.2
  refine wp_region_parts (by kernel_rfl) (by kernel_rfl) ?_
  have hb0 : Below W.heap.size W W.drew := (Below.refl _ _).drew
  have HVa := Lib.hid (HV.out.next hb0)
  have HFa := Lib.hid (HF.out.trans (Fr.of_below hb0))
  have HXEa := Lib.hid (HXE.out.next hb0)
  clear hb0 HV HF HXE
  generalize W.drew = W0 at *
  have HV := HVa; have HF := HFa; have HXE := HXEa
  clear HVa HFa HXEa
  have hxb := HV.out.row.lt
  apply regL_lq W0.heap.size
  intro D hD hne
  have p2 := fun z : Bd W0.heap.size W0 D => (z.ok.cell (p := ⟨xb, 2, none⟩) hxb).trans (HV.out.row.cell 2)
  simp at p2
  have p3 := fun z : Bd W0.heap.size W0 D => (z.ok.cell (p := ⟨xb, 3, none⟩) hxb).trans (HV.out.row.cell 3)
  simp at p3
  repeat (apply wpLQ_pin rfl rfl; intro K hK; go_big_quiet_op; go_big_quiet_on; apply And.intro rfl)
  apply wpLQ_nil (by simp)
  intro W1 hb1 _
  have HVa := Lib.hid (HV.out.next hb1)
  have HFa := Lib.hid (HF.out.trans (Fr.of_below hb1))
  have HXEa := Lib.hid (HXE.out.next hb1)
  clear hb1 hne hD HV HF HXE hxb p2 p3
  have HV := HVa; have HF := HFa; have HXE := HXEa
  clear HVa HFa HXEa
  generalize W1 = W at *
  go_wp2_with fail
  refine wp_region_parts (by kernel_rfl) (by kernel_rfl) ?_
  have hb0 : Below W.heap.size W W.drew := (Below.refl _ _).drew
  have HVa := Lib.hid (HV.out.next hb0)
  have HFa := Lib.hid (HF.out.trans (Fr.of_below hb0))
  have HXEa := Lib.hid (HXE.out.next hb0)
  clear hb0 HV HF HXE
  generalize W.drew = W0 at *
  have HV := HVa; have HF := HFa; have HXE := HXEa
  clear HVa HFa HXEa
  have hxb := HV.out.row.lt
  apply regL_lq W0.heap.size
  intro D hD hne
  have p0 := fun z : Bd W0.heap.size W0 D => (z.ok.cell (p := ⟨xb, 0, none⟩) hxb).trans (HV.out.row.cell 0)
  simp at p0
  have p2 := fun z : Bd W0.heap.size W0 D => (z.ok.cell (p := ⟨xb, 2, none⟩) hxb).trans (HV.out.row.cell 2)
  simp at p2
  repeat (apply wpLQ_pin rfl rfl; intro K hK; go_big_quiet_op; go_big_quiet_on; apply And.intro rfl)
  apply wpLQ_nil (by simp)
  intro W1 hb1 _
  have HVa := Lib.hid (HV.out.next hb1)
  have HFa := Lib.hid (HF.out.trans (Fr.of_below hb1))
  have HXEa := Lib.hid (HXE.out.next hb1)
  clear hb1 hne hD HV HF HXE hxb p0 p2
  have HV := HVa; have HF := HFa; have HXE := HXEa
  clear HVa HFa HXEa
  generalize W1 = W at *
  have e1 : (((na : Int) + (nc : Int)) == p.room) = true := by rw [HNA.out, HNC.out]; simpa using HQ.out
  have lta : p.a.tail.length ≤ p.a.length := by simp
  have hna : ¬ (na : Int) < p.room := by have := HL.out; have := HNA.out; omega
  have hna0 : 0 < na := by omega
  go_wp2_with fail
  refine wp_region_parts (by kernel_rfl) (by kernel_rfl) ?_
  have hb0 : Below W.heap.size W W.drew := (Below.refl _ _).drew
  have HVa := Lib.hid (HV.out.next hb0)
  have HFa := Lib.hid (HF.out.trans (Fr.of_below hb0))
  have HXEa := Lib.hid (HXE.out.next hb0)
  clear hb0 HV HF HXE
  generalize W.drew = W0 at *
  have HV := HVa; have HF := HFa; have HXE := HXEa
  clear HVa HFa HXEa
  have hxb := HV.out.row.lt
  apply regL_lq W0.heap.size
  intro D hD hne
  have p0 := fun z : Bd W0.heap.size W0 D => (z.ok.cell (p := ⟨xb, 0, none⟩) hxb).trans (HV.out.row.cell 0)
  simp at p0
  have p2 := fun z : Bd W0.heap.size W0 D => (z.ok.cell (p := ⟨xb, 2, none⟩) hxb).trans (HV.out.row.cell 2)
  simp at p2
  repeat (apply wpLQ_pin rfl rfl; intro K hK; go_big_quiet_op; go_big_quiet_on; apply And.intro rfl)
  apply wpLQ_nil (by simp)
  intro W1 hb1 _
  have HVa := Lib.hid (HV.out.next hb1)
  have HFa := Lib.hid (HF.out.trans (Fr.of_below hb1))
  have HXEa := Lib.hid (HXE.out.next hb1)
  clear hb1 hne hD HV HF HXE hxb p0 p2
  have HV := HVa; have HF := HFa; have HXE := HXEa
  clear HVa HFa HXEa
  generalize W1 = W at *
  obtain ⟨A9, c9, e9, hu⟩ := slicedH_from HV.out.ha 1 (by have := HNA.out; omega)
  rw [List.drop_one] at hu
  obtain ⟨nn, hnn⟩ : ∃ nn, nn = p.a.length - 1 := ⟨_, rfl⟩
  rw [← hnn] at e9 hu
  have hsl : ∀ x, (Instr.slice 56 (.slice A1 na c1) (some (.int .i64 1)) none none).run Try.prog x = .ok (.slice A9 nn c9) x := fun x => by
    have := slice_fromH A1 na c1 1 (by omega) x
    rw [e9] at this
    exact this
  have HSL := Lib.hid hsl
  have HU := Lib.hid hu
  have q9 := HV.out.row.cell 2
  have f9 := HV.out.row.free 2
  simp at q9
  clear e9 hnn hsl hu
  go_wp2_with (refine wpList_sliceR (x := .tmp 215) (l := .const (.int .i64 1)) rfl rfl rfl rfl (HSL.out _) ?_)
  have HVa := Lib.hid (HV.out.setA HU.out)
  have HFa := Lib.hid (HF.out.setCell (b := xb) (i := 2) rfl (.slice A9 nn c9))
  have HXEa := Lib.hid (HXE.out.other (c := xb) 2 (.slice A9 nn c9) HNE.out)
  clear q9 f9 HV HF HXE HU
  have HV := HVa; have HF := HFa; have HXE := HXEa
  clear HVa HFa HXEa
  generalize World.setCell _ _ _ = W at *
  clear HSL
  go_wp2_with fail
  refine wp_region_parts (by kernel_rfl) (by kernel_rfl) ?_
  have hb0 : Below W.heap.size W W.drew := (Below.refl _ _).drew
  have HVa := Lib.hid (HV.out.next hb0)
  have HFa := Lib.hid (HF.out.trans (Fr.of_below hb0))
  have HXEa := Lib.hid (HXE.out.next hb0)
  clear hb0 HV HF HXE
  generalize W.drew = W0 at *
  have HV := HVa; have HF := HFa; have HXE := HXEa
  clear HVa HFa HXEa
  have hxb := HV.out.row.lt
  apply regL_lq W0.heap.size
  intro D hD hne
  have pf1 := fun z : Bd W0.heap.size W0 D => (z.ok.cell (p := ⟨xb, 2, none⟩) hxb).trans (HV.out.row.cell 2)
  simp at pf1
  iterate 5 (apply wpLQ_pin rfl rfl; intro K hK; go_big_quiet_op; go_big_quiet_on; apply And.intro rfl)
  apply wpLQ_at (.agg E.toArray) (Nat.le_refl _) hD rfl
  · intro z _
    exact runs_loadH (x := .tmp 6) rfl rfl (load78 (HXE.out.next z.ok) (by rw [HE.out, had_len])) ⟨rfl, Below.refl _ _⟩
  simp only [Act.put, List.setIfInBounds_toArray, List.set_cons_succ, List.set_cons_zero]
  apply wpLQ_loose (HAv (p.a.tail ++ [(k, some c)])) (hav_stable _) (Nat.le_refl _) hD rfl
  · intro x hx
    unfold Runs
    go_simp
    have hcall := with_any x.val _ (p.a.tail) (HV.out.next x.ok).ha (by first | omega | (have := HNA.out; have := HNB.out; have := HNC.out; have := HND.out; omega)) (k, some c)
    rw [← HE.out] at hcall
    refine hcall.mono ?_
    rintro e2 w4 ⟨u, rfl, hu, hb2⟩
    exact ⟨u, rfl, hu, hb2⟩
  intro u
  simp only [Act.put, List.setIfInBounds_toArray, List.set_cons_succ, List.set_cons_zero]
  iterate 2 (apply wpLQ_pin rfl rfl; intro K hK; go_big_quiet_op; go_big_quiet_on; apply And.intro rfl)
  clear pf1
  apply wpLQ_end (bar_of (by kernel_rfl))
  intro W1 hb1 hFF
  have hu : HA W1 u (p.a.tail ++ [(k, some c)]) := hFF (6, HAv (p.a.tail ++ [(k, some c)]) u) (by simp [Facts.add])
  obtain ⟨A9, c9, rfl, h91, h92⟩ := hu.shape
  obtain ⟨nn, hnn⟩ : ∃ nn, nn = (p.a.tail ++ [(k, some c)]).length := ⟨_, rfl⟩
  rw [← hnn] at hu h91 ⊢
  have HU := Lib.hid hu
  have HVa := Lib.hid (HV.out.next hb1)
  have HFa := Lib.hid (HF.out.trans (Fr.of_below hb1))
  have HXEa := Lib.hid (HXE.out.next hb1)
  clear hFF hu hb1 hne hD HV HF HXE hxb hnn
  have HV := HVa; have HF := HFa; have HXE := HXEa
  clear HVa HFa HXEa
  have q9 := HV.out.row.cell 2
  have f9 := HV.out.row.free 2
  simp at q9
  apply regL_one (bar_of (by kernel_rfl)) rfl
  unfold Oper.wp
  go_simp
  apply regL_nil
  have HVa := Lib.hid (HV.out.setA HU.out)
  have HFa := Lib.hid (HF.out.setCell (b := xb) (i := 2) rfl (.slice A9 nn c9))
  have HXEa := Lib.hid (HXE.out.other (c := xb) 2 (.slice A9 nn c9) HNE.out)
  clear q9 f9 HV HF HXE HU
  have HV := HVa; have HF := HFa; have HXE := HXEa
  clear HVa HFa HXEa
  generalize W1.setCell _ _ = W at *
  go_wp2_with fail
  first | go_end0 | (refine bodyPost_ret (results_none rfl _ _ _) rfl ?_)
  refine ⟨rfl, ?_, HF.out⟩
  have hp : putP p k c = _ := put_new2 HMA.out HMB.out HMC.out HMD.out c HQ.out (by have := HL.out; omega)
  rw [hp]
  exact ⟨_, _, _, _, HV.out⟩
end Go.Proofs.Ytefjpljjdjecjaa
