/- The document's Get. -/
import Derived.Test.YtefjpljjdjecjaaYp
import Derived.Test.YtefjpljjdjecjaaYq
import Derived.Test.YtefjpljjdjecjaaWr
namespace Go.Proofs.Ytefjpljjdjecjaa
open Go.RowKit
/-- A block inside a row. -/
theorem load30_at (w : World) (b off : Nat) (v : List Value) (hl : v.length = 512) (h : ∀ j, j < 512 → w.cell? ⟨b, off + j, none⟩ = v[j]?) : (loadVar 30 ⟨b, off, none⟩).run Try.prog w = .ok (.agg v.toArray) w := by
  have hc : (loadCells ⟨b, off, none⟩ v.length).run Try.prog w = .ok v.toArray w := run_loadCells_list (P := Try.prog) w ⟨b, off, none⟩ v (fun j u hu => by
    have hj := (List.getElem?_eq_some_iff.1 hu).1
    rw [Addr.add_mid, h j (by omega), hu])
  rw [hl] at hc
  have hi := info30
  cases hq : Try.prog.info? 30 with
  | none => rw [hq] at hi; cases hi
  | some i =>
    have hs : i.size = 512 := by simpa [hq] using hi
    have hagg : (isAgg 30).run Try.prog w = .ok true w := by
      unfold isAgg
      rw [Sem.run_bind, run_underlying Try.underlying30 w]
      rfl
    simp [loadVar, Sem.run_bind, hagg, sizeOf, typeInfo, hq, hs, hc]
section
variable {P : Program} {ops : Array Oper} {rest : List Oper} {o : Oper} {a : Act} {w : World} {Q : Exit → Act → World → Prop}
theorem wpList_loadA {x : Operand} {A : Addr} {v : List Value} {T : TypeId} (hw : Region.wanted o (yielded ops a.tmps) = true) (ho : o.op = .load T x) (hx : a.eval x = .pointer (some A)) (hr : (loadVar T A).run P w = .ok (.agg v.toArray) w)
    (h : wpList P ops Q rest (a.put o.dst (.agg v.toArray)) w) : wpList P ops Q (o :: rest) a w := by
  refine BigFrame.wpList_want hw fun K hK => ?_
  unfold Oper.wp execOp
  simp only [ho, hx, Instr.loadAt, Instr.sureAddr, Sem.run_bind, Sem.run_pure, Result.andThen_ok, hr]
  exact hK _ _ h
end
theorem XV.fr {M : Nat → Prop} {w w' : World} {xb : Nat} {p : Pu} {v1 v2 v3 v4 : Value} (h : XV w xb p v1 v2 v3 v4) (hf : Fr M w w') (hx : ¬ M xb) (hm : ∀ k cs fz, w.heap[k]? = some (.cells cs 78 fz) → ¬ M k) : XV w' xb p v1 v2 v3 v4 :=
  ⟨h.row.fr hf hx, h.ha.fr hf hm, h.hb.fr hf hm, h.hc.fr hf hm, h.hd.fr hf hm⟩
theorem fr_setRow (w : World) (g : Nat) (cs : Array Value) : Fr (fun k => k = g) w (w.setRow g cs) := ⟨rfl, rfl, rfl, by simp, fun k _ hn => setRow_other w g k cs hn⟩
theorem not78 {w : World} {g : Nat} {l : List Value} (h : RowAt w g 30 l) : ∀ k cs fz, w.heap[k]? = some (.cells cs 78 fz) → ¬ k = g := by
  intro k cs fz hk e
  subst e
  unfold RowAt at h
  rw [h] at hk
  cases hk
theorem nodup_key : ∀ {L : List He} {x y : He}, (ksP L).Nodup → x ∈ L → y ∈ L → x.1 = y.1 → x = y
  | [], _, _, _, h, _, _ => by simp at h
  | z :: L, x, y, hn, hx, hy, e => by
    have hn' : z.1 ∉ ksP L ∧ (ksP L).Nodup := by simpa [ksP] using hn
    rcases List.mem_cons.1 hx with ex | hx'
    · rcases List.mem_cons.1 hy with ey | hy'
      · rw [ex, ey]
      · subst ex
        exact absurd (e ▸ List.mem_map_of_mem hy') hn'.1
    · rcases List.mem_cons.1 hy with ey | hy'
      · subst ey
        exact absurd (e ▸ List.mem_map_of_mem hx') hn'.1
      · exact nodup_key hn'.2 hx' hy' e
theorem look_a {p : Pu} {k c : Int} {i : Nat} {e : He} (hl : lookP p k = some c) (hn : NK p) (he : p.a[i]? = some e) (hk : e.1 = k) : e.2 = some c := by
  unfold lookP at hl
  obtain ⟨y, hy, hc⟩ := Option.bind_eq_some_iff.1 hl
  have hm := List.mem_of_find?_eq_some hy
  have hyk : y.1 = k := by simpa using List.find?_some hy
  have hea := List.mem_of_getElem? he
  have hp := hn.parts
  rcases List.mem_append.1 hm with h | h
  · have : y = e := nodup_key hp.1 h hea (hyk.trans hk.symm)
    rw [← this]; exact hc
  · exact absurd (hyk ▸ List.mem_map_of_mem h) (hp.2.2.2.2.1 k (hk ▸ List.mem_map_of_mem hea)).1
theorem look_b {p : Pu} {k c : Int} {i : Nat} {e : He} (hl : lookP p k = some c) (hn : NK p) (he : p.b[i]? = some e) (hk : e.1 = k) : e.2 = some c := by
  unfold lookP at hl
  obtain ⟨y, hy, hc⟩ := Option.bind_eq_some_iff.1 hl
  have hm := List.mem_of_find?_eq_some hy
  have hyk : y.1 = k := by simpa using List.find?_some hy
  have hea := List.mem_of_getElem? he
  have hp := hn.parts
  rcases List.mem_append.1 hm with h | h
  · exact absurd (hyk ▸ List.mem_map_of_mem h) (hp.2.2.2.2.2.1 k (hk ▸ List.mem_map_of_mem hea)).1
  · have : y = e := nodup_key hp.2.1 h hea (hyk.trans hk.symm)
    rw [← this]; exact hc
theorem get_put {p : Pu} {k c : Int} (hl : lookP p k = some c) : putP p k c = getP p k := by
  have hk := look_some hl
  unfold getP
  rw [hl]
  unfold putP whereP
  by_cases ha : hasK p.a k = true
  · rw [if_pos ha]; rfl
  · rw [if_neg ha]
    have hb : hasK p.b k = true := by
      rcases hk with h | h
      · exact absurd ((hasK_iff _ _).2 h) ha
      · exact (hasK_iff _ _).2 h
    rw [if_pos hb]; rfl
set_option maxHeartbeats 8000000 in
set_option maxRecDepth 100000 in
theorem xget_a (w : World) (xb : Nat) (p : Pu) (h : XR w xb p) (hw : WF p) (hn : NK p) (k : Int) (c : Int) (hl : lookP p k = some c) (ha : hasK p.a k = true) :
    Calls Try.prog 26 #[.pointer (some ⟨xb, 0, none⟩), .int .i64 k] w fun e w' => e = .returned (.tuple #[.agg (blk c).toArray, .int .i64 0]) ∧ XR w' xb (putP p k c) ∧ Fr (fun k => k = xb) w w' := by
  have HWF := Lib.hid hw
  have HNK := Lib.hid hn
  have q1 := hw.h1; have q4 := hw.rm
  obtain ⟨v1, v2, v3, v4, hv⟩ := h
  have hxl := hv.row.lt
  obtain ⟨Z, hZ⟩ : ∃ Z, Z = blk 0 := ⟨_, rfl⟩
  have z30 : ∀ w, (zeroValue 30).run Try.prog w = .ok (.agg Z.toArray) w := fun w => by rw [hZ]; exact zero30 w
  obtain ⟨Y, hY⟩ : ∃ Y, Y = blk c := ⟨_, rfl⟩
  rw [← hY]
  have HY := Lib.hid hY
  have H1Y : Hid (OneC Y) := Lib.hid (by rw [hY]; exact blk_one c)
  have HL := Lib.hid hl
  have H1Z : Hid (OneC Z) := Lib.hid (by rw [hZ]; exact blk_one 0)
  have HB30 : Hid (Try.prog.built 30 [] = some Z.toArray) := Lib.hid (by rw [hZ]; exact built30)
  have HIZ : Hid ((Try.prog.info? 30).map (·.size) = some Z.toArray.size) := Lib.hid (by rw [info30]; simp [H1Z.out.1])
  have HMA := Lib.hid ha
  have hb1 : Below w.heap.size w (w.alloc (.cells Z.toArray 30)) := bA (Below.refl _ _) _
  have hd4 : RowAt (w.alloc (.cells Z.toArray 30)) w.heap.size 30 Z := RowAt.new w 30 Z
  have HV := Lib.hid (hv.next hb1)
  have HD4 := Lib.hid hd4
  have HF := Lib.hid (Fr.of_below (M := fun k => k = xb) hb1)
  have c2 := HV.out.row.cell 2
  have c3 := HV.out.row.cell 3
  simp only [List.getElem?_cons_succ, List.getElem?_cons_zero] at c2 c3
  clear hv hb1 hd4 hw hn hZ hY hl ha
  go_enter Try.func26, Try.ntmps26
  go_wp2_with fail
  obtain ⟨i, hfi, hi, e, he, hek⟩ := fI_hit HMA.out
  have hcall := find_any _ _ p.a HV.out.ha (by omega) k
  rw [hfi] at hcall
  refine hcall.mono ?_
  rintro _ _ ⟨rfl, rfl⟩
  have HI := Lib.hid hi
  have HEI := Lib.hid he
  have HEK := Lib.hid hek
  have hi0 : (0 : Int) ≤ (i : Int) := by omega
  clear hcall hfi hi he hek
  go_wp2_with fail
  obtain ⟨f2, hf2⟩ : ∃ f2, f2 = fI p.b k := ⟨_, rfl⟩
  have hcall := find_any _ _ p.b HV.out.hb (by omega) k
  rw [← hf2] at hcall
  refine hcall.mono ?_
  rintro _ _ ⟨rfl, rfl⟩
  clear hcall hf2
  have hd8 : RowAt ((w.alloc (.cells Z.toArray 30)).alloc (.cells Z.toArray 30)) (w.heap.size + 1) 30 Z := by simpa using RowAt.new (w.alloc (.cells Z.toArray 30)) 30 Z
  have HD8 := Lib.hid hd8
  have hb2 : Below (w.alloc (.cells Z.toArray 30)).heap.size (w.alloc (.cells Z.toArray 30)) (((w.alloc (.cells Z.toArray 30)).alloc (.cells Z.toArray 30)).setRow (w.heap.size + 1) Z.toArray) := (bA (Below.refl _ _) _).trans (below_setRow (by simp))
  have HV2 := Lib.hid (HV.out.next hb2)
  have HD42 := Lib.hid (HD4.out.next hb2)
  have HD82 := Lib.hid (hd8.setRow (l' := Z))
  have HF2 := Lib.hid (HF.out.trans (Fr.of_below hb2))
  clear hd8 hb2
  go_upto_region 6 with (first | (refine wpList_buildR (t := 30) (parts := #[]) (v := Z) rfl rfl [] rfl HB30.out ?_) | (refine wpList_store_row rfl 30 (.tmp 8) (.tmp 28) rfl (w.heap.size + 1) Z.toArray rfl rfl 30 Z.toArray HD8.out HIZ.out rfl H1Z.out.2 ?_))
  clear c2 c3 HV HD4 HD8 HF z30
  generalize World.setRow _ _ _ = W at *
  obtain ⟨d4, hd4⟩ : ∃ d4, d4 = w.heap.size := ⟨_, rfl⟩
  obtain ⟨d8, hd8⟩ : ∃ d8, d8 = w.heap.size + 1 := ⟨_, rfl⟩
  rw [← hd8] at HD82 ⊢
  rw [← hd4] at HD42 ⊢
  have n48 : ¬ d4 = d8 := by omega
  have nx8 : ¬ xb = d8 := by omega
  have n4x : ¬ d4 = xb := by omega
  have n8x : ¬ d8 = xb := by omega
  have hlw : w.heap.size ≤ d4 ∧ w.heap.size ≤ d8 := by omega
  have HN : Hid (¬ d4 = d8 ∧ ¬ xb = d8 ∧ ¬ d4 = xb ∧ ¬ d8 = xb ∧ w.heap.size ≤ d4 ∧ w.heap.size ≤ d8) := Lib.hid ⟨n48, nx8, n4x, n8x, hlw⟩
  clear hd4 hd8 n48 nx8 n4x n8x hlw
  obtain ⟨A, cc, rfl, hA1, hA2⟩ := HV2.out.ha.shape
  obtain ⟨b1, off, rfl, hbl, _, hat⟩ := HV2.out.ha.at i _ HEI.out
  have hlk := look_a HL.out HNK.out HEI.out HEK.out
  have HLD : Hid ((loadVar 30 ⟨b1, off + i * 513 + 1, none⟩).run Try.prog W = .ok (.agg Y.toArray) W) := Lib.hid (load30_at W b1 _ Y H1Y.out.1 (fun j hj => by
    have := hat (j + 1) (by omega)
    rw [show off + i * 513 + 1 + j = off + (i * 513 + (j + 1)) by omega, this, HY.out]
    unfold had
    rw [hlk]
    rfl))
  obtain ⟨m, hm⟩ : ∃ m, m = p.a.length := ⟨_, rfl⟩
  have hil := HI.out
  rw [← hm] at hil hA1 HV2
  have c2 := HV2.out.row.cell 2
  simp only [List.getElem?_cons_succ, List.getElem?_cons_zero] at c2
  have hic : (i : Int) < (cc : Int) := by omega
  have him : (i : Int) < (m : Int) := by omega
  have HIY : Hid ((Try.prog.info? 30).map (·.size) = some Y.toArray.size) := Lib.hid (by rw [info30]; simp [H1Y.out.1])
  have HIO : Hid (Z.toArray.size = Y.toArray.size) := Lib.hid (by simp [H1Y.out.1, H1Z.out.1])
  have HIO2 : Hid (Y.toArray.size = Y.toArray.size) := Lib.hid rfl
  have HV3 := Lib.hid (HV2.out.fr (fr_setRow W d8 Y.toArray) HN.out.2.1 (not78 HD82.out))
  have HD43 := Lib.hid (HD42.out.fr (fr_setRow W d8 Y.toArray) HN.out.1)
  have HD83 := Lib.hid (HD82.out.setRow (l' := Y))
  have HF3 : Hid (Fr (fun k => k = xb) w (W.setRow d8 Y.toArray)) := Lib.hid ⟨HF2.out.os, HF2.out.tape, HF2.out.output, by simpa using HF2.out.size, fun k hk hn => (setRow_other _ _ k _ (by have := HN.out; omega)).trans (HF2.out.block k hk hn)⟩
  clear hat hlk hm
  go_upto_region 9 with (first | (refine wpList_store_row rfl 30 (.tmp 8) (.tmp 38) rfl d8 Y.toArray rfl rfl 30 Z.toArray HD82.out HIY.out HIO.out H1Y.out.2 ?_) | (refine wpList_loadA (x := .tmp 37) rfl rfl rfl HLD.out ?_))
  clear c2 HLD HD82 HD42 HV2 HF2 hbl
  generalize W.setRow _ _ = W3 at *
  go_wp2_with (refine wpList_loadR (x := .tmp 8) rfl rfl rfl (load30 HD83.out H1Y.out.1) ?_)
  have hput := xput_any W3 xb p ⟨_, _, _, _, HV3.out⟩ HWF.out HNK.out k c
  rw [← HY.out] at hput
  refine hput.mono ?_
  rintro _ W4 ⟨rfl, hx4, hf4⟩
  have HX4 := Lib.hid hx4
  have HF4 := Lib.hid (HF3.out.trans hf4)
  have HD44 := Lib.hid (HD43.out.fr hf4 HN.out.2.2.1)
  have HD84 := Lib.hid (HD83.out.fr hf4 HN.out.2.2.2.1)
  clear hput hx4 hf4
  go_wp2_with (first | (refine wpList_loadR (x := .tmp 8) rfl rfl rfl (load30 HD84.out H1Y.out.1) ?_) | (refine wpList_store_row rfl 30 (.tmp 4) (.tmp 51) rfl d4 Y.toArray rfl rfl 30 Z.toArray HD44.out HIY.out HIO.out H1Y.out.2 ?_))
  refine bodyPost_ret (results_ct rfl _ _ d4 Y _ rfl rfl (HD44.out.setRow (l' := Y)) H1Y.out.1) rfl ?_
  obtain ⟨u1, u2, u3, u4, hu⟩ := HX4.out
  exact ⟨rfl, ⟨_, _, _, _, hu.fr (fr_setRow _ d4 Y.toArray) (fun e => HN.out.2.2.1 e.symm) (not78 HD44.out)⟩, ⟨HF4.out.os, HF4.out.tape, HF4.out.output, by simpa using HF4.out.size, fun k hk hn => (setRow_other _ _ k _ (by have := HN.out; omega)).trans (HF4.out.block k hk hn)⟩⟩
set_option maxHeartbeats 8000000 in
set_option maxRecDepth 100000 in
theorem xget_b (w : World) (xb : Nat) (p : Pu) (h : XR w xb p) (hw : WF p) (hn : NK p) (k : Int) (c : Int) (hl : lookP p k = some c) (ha : hasK p.a k = false) (hb : hasK p.b k = true) :
    Calls Try.prog 26 #[.pointer (some ⟨xb, 0, none⟩), .int .i64 k] w fun e w' => e = .returned (.tuple #[.agg (blk c).toArray, .int .i64 0]) ∧ XR w' xb (putP p k c) ∧ Fr (fun k => k = xb) w w' := by
  have HWF := Lib.hid hw
  have HNK := Lib.hid hn
  have q1 := hw.h1; have q4 := hw.rm
  obtain ⟨v1, v2, v3, v4, hv⟩ := h
  have hxl := hv.row.lt
  obtain ⟨Z, hZ⟩ : ∃ Z, Z = blk 0 := ⟨_, rfl⟩
  have z30 : ∀ w, (zeroValue 30).run Try.prog w = .ok (.agg Z.toArray) w := fun w => by rw [hZ]; exact zero30 w
  obtain ⟨Y, hY⟩ : ∃ Y, Y = blk c := ⟨_, rfl⟩
  rw [← hY]
  have HY := Lib.hid hY
  have H1Y : Hid (OneC Y) := Lib.hid (by rw [hY]; exact blk_one c)
  have HL := Lib.hid hl
  have H1Z : Hid (OneC Z) := Lib.hid (by rw [hZ]; exact blk_one 0)
  have HB30 : Hid (Try.prog.built 30 [] = some Z.toArray) := Lib.hid (by rw [hZ]; exact built30)
  have HIZ : Hid ((Try.prog.info? 30).map (·.size) = some Z.toArray.size) := Lib.hid (by rw [info30]; simp [H1Z.out.1])
  have HMA := Lib.hid ha
  have HMB := Lib.hid hb
  have hb1 : Below w.heap.size w (w.alloc (.cells Z.toArray 30)) := bA (Below.refl _ _) _
  have hd4 : RowAt (w.alloc (.cells Z.toArray 30)) w.heap.size 30 Z := RowAt.new w 30 Z
  have HV := Lib.hid (hv.next hb1)
  have HD4 := Lib.hid hd4
  have HF := Lib.hid (Fr.of_below (M := fun k => k = xb) hb1)
  have c2 := HV.out.row.cell 2
  have c3 := HV.out.row.cell 3
  simp only [List.getElem?_cons_succ, List.getElem?_cons_zero] at c2 c3
  clear hv hb1 hd4 hw hn hZ hY hl ha hb
  go_enter Try.func26, Try.ntmps26
  go_wp2_with fail
  have hcall := find_any _ _ p.a HV.out.ha (by omega) k
  rw [fI_miss HMA.out] at hcall
  refine hcall.mono ?_
  rintro _ _ ⟨rfl, rfl⟩
  clear hcall
  go_wp2_with fail
  obtain ⟨i, hfi, hi, e, he, hek⟩ := fI_hit HMB.out
  have hcall := find_any _ _ p.b HV.out.hb (by omega) k
  rw [hfi] at hcall
  refine hcall.mono ?_
  rintro _ _ ⟨rfl, rfl⟩
  have HI := Lib.hid hi
  have HEI := Lib.hid he
  have HEK := Lib.hid hek
  have hi0 : (0 : Int) ≤ (i : Int) := by omega
  clear hcall hfi hi he hek
  have hd8 : RowAt ((w.alloc (.cells Z.toArray 30)).alloc (.cells Z.toArray 30)) (w.heap.size + 1) 30 Z := by simpa using RowAt.new (w.alloc (.cells Z.toArray 30)) 30 Z
  have HD8 := Lib.hid hd8
  have hb2 : Below (w.alloc (.cells Z.toArray 30)).heap.size (w.alloc (.cells Z.toArray 30)) (((w.alloc (.cells Z.toArray 30)).alloc (.cells Z.toArray 30)).setRow (w.heap.size + 1) Z.toArray) := (bA (Below.refl _ _) _).trans (below_setRow (by simp))
  have HV2 := Lib.hid (HV.out.next hb2)
  have HD42 := Lib.hid (HD4.out.next hb2)
  have HD82 := Lib.hid (hd8.setRow (l' := Z))
  have HF2 := Lib.hid (HF.out.trans (Fr.of_below hb2))
  clear hd8 hb2
  go_upto_region 6 with (first | (refine wpList_buildR (t := 30) (parts := #[]) (v := Z) rfl rfl [] rfl HB30.out ?_) | (refine wpList_store_row rfl 30 (.tmp 8) (.tmp 28) rfl (w.heap.size + 1) Z.toArray rfl rfl 30 Z.toArray HD8.out HIZ.out rfl H1Z.out.2 ?_))
  clear c2 c3 HV HD4 HD8 HF z30
  generalize World.setRow _ _ _ = W at *
  obtain ⟨d4, hd4⟩ : ∃ d4, d4 = w.heap.size := ⟨_, rfl⟩
  obtain ⟨d8, hd8⟩ : ∃ d8, d8 = w.heap.size + 1 := ⟨_, rfl⟩
  rw [← hd8] at HD82 ⊢
  rw [← hd4] at HD42 ⊢
  have n48 : ¬ d4 = d8 := by omega
  have nx8 : ¬ xb = d8 := by omega
  have n4x : ¬ d4 = xb := by omega
  have n8x : ¬ d8 = xb := by omega
  have hlw : w.heap.size ≤ d4 ∧ w.heap.size ≤ d8 := by omega
  have HN : Hid (¬ d4 = d8 ∧ ¬ xb = d8 ∧ ¬ d4 = xb ∧ ¬ d8 = xb ∧ w.heap.size ≤ d4 ∧ w.heap.size ≤ d8) := Lib.hid ⟨n48, nx8, n4x, n8x, hlw⟩
  clear hd4 hd8 n48 nx8 n4x n8x hlw
  obtain ⟨A, cc, rfl, hA1, hA2⟩ := HV2.out.hb.shape
  obtain ⟨b1, off, rfl, hbl, _, hat⟩ := HV2.out.hb.at i _ HEI.out
  have hlk := look_b HL.out HNK.out HEI.out HEK.out
  have HLD : Hid ((loadVar 30 ⟨b1, off + i * 513 + 1, none⟩).run Try.prog W = .ok (.agg Y.toArray) W) := Lib.hid (load30_at W b1 _ Y H1Y.out.1 (fun j hj => by
    have := hat (j + 1) (by omega)
    rw [show off + i * 513 + 1 + j = off + (i * 513 + (j + 1)) by omega, this, HY.out]
    unfold had
    rw [hlk]
    rfl))
  obtain ⟨m, hm⟩ : ∃ m, m = p.b.length := ⟨_, rfl⟩
  have hil := HI.out
  rw [← hm] at hil hA1 HV2
  have c2 := HV2.out.row.cell 3
  simp only [List.getElem?_cons_succ, List.getElem?_cons_zero] at c2
  have hic : (i : Int) < (cc : Int) := by omega
  have him : (i : Int) < (m : Int) := by omega
  have HIY : Hid ((Try.prog.info? 30).map (·.size) = some Y.toArray.size) := Lib.hid (by rw [info30]; simp [H1Y.out.1])
  have HIO : Hid (Z.toArray.size = Y.toArray.size) := Lib.hid (by simp [H1Y.out.1, H1Z.out.1])
  have HIO2 : Hid (Y.toArray.size = Y.toArray.size) := Lib.hid rfl
  have HV3 := Lib.hid (HV2.out.fr (fr_setRow W d8 Y.toArray) HN.out.2.1 (not78 HD82.out))
  have HD43 := Lib.hid (HD42.out.fr (fr_setRow W d8 Y.toArray) HN.out.1)
  have HD83 := Lib.hid (HD82.out.setRow (l' := Y))
  have HF3 : Hid (Fr (fun k => k = xb) w (W.setRow d8 Y.toArray)) := Lib.hid ⟨HF2.out.os, HF2.out.tape, HF2.out.output, by simpa using HF2.out.size, fun k hk hn => (setRow_other _ _ k _ (by have := HN.out; omega)).trans (HF2.out.block k hk hn)⟩
  clear hat hlk hm
  go_upto_region 9 with (first | (refine wpList_store_row rfl 30 (.tmp 8) (.tmp 46) rfl d8 Y.toArray rfl rfl 30 Z.toArray HD82.out HIY.out HIO.out H1Y.out.2 ?_) | (refine wpList_loadA (x := .tmp 45) rfl rfl rfl HLD.out ?_))
  clear c2 HLD HD82 HD42 HV2 HF2 hbl
  generalize W.setRow _ _ = W3 at *
  go_wp2_with (refine wpList_loadR (x := .tmp 8) rfl rfl rfl (load30 HD83.out H1Y.out.1) ?_)
  have hput := xput_any W3 xb p ⟨_, _, _, _, HV3.out⟩ HWF.out HNK.out k c
  rw [← HY.out] at hput
  refine hput.mono ?_
  rintro _ W4 ⟨rfl, hx4, hf4⟩
  have HX4 := Lib.hid hx4
  have HF4 := Lib.hid (HF3.out.trans hf4)
  have HD44 := Lib.hid (HD43.out.fr hf4 HN.out.2.2.1)
  have HD84 := Lib.hid (HD83.out.fr hf4 HN.out.2.2.2.1)
  clear hput hx4 hf4
  go_wp2_with (first | (refine wpList_loadR (x := .tmp 8) rfl rfl rfl (load30 HD84.out H1Y.out.1) ?_) | (refine wpList_store_row rfl 30 (.tmp 4) (.tmp 51) rfl d4 Y.toArray rfl rfl 30 Z.toArray HD44.out HIY.out HIO.out H1Y.out.2 ?_))
  refine bodyPost_ret (results_ct rfl _ _ d4 Y _ rfl rfl (HD44.out.setRow (l' := Y)) H1Y.out.1) rfl ?_
  obtain ⟨u1, u2, u3, u4, hu⟩ := HX4.out
  exact ⟨rfl, ⟨_, _, _, _, hu.fr (fr_setRow _ d4 Y.toArray) (fun e => HN.out.2.2.1 e.symm) (not78 HD44.out)⟩, ⟨HF4.out.os, HF4.out.tape, HF4.out.output, by simpa using HF4.out.size, fun k hk hn => (setRow_other _ _ k _ (by have := HN.out; omega)).trans (HF4.out.block k hk hn)⟩⟩
set_option maxHeartbeats 8000000 in
set_option maxRecDepth 100000 in
theorem xget_z (w : World) (xb : Nat) (p : Pu) (h : XR w xb p) (hw : WF p) (hn : NK p) (k : Int) (ha : hasK p.a k = false) (hb : hasK p.b k = false) :
    Calls Try.prog 26 #[.pointer (some ⟨xb, 0, none⟩), .int .i64 k] w fun e w' => e = .returned (.tuple #[.agg (blk 0).toArray, .int .i64 5]) ∧ XR w' xb p ∧ Fr (fun k => k = xb) w w' := by
  have HWF := Lib.hid hw
  have HNK := Lib.hid hn
  have q1 := hw.h1; have q4 := hw.rm
  obtain ⟨v1, v2, v3, v4, hv⟩ := h
  have hxl := hv.row.lt
  obtain ⟨Z, hZ⟩ : ∃ Z, Z = blk 0 := ⟨_, rfl⟩
  have z30 : ∀ w, (zeroValue 30).run Try.prog w = .ok (.agg Z.toArray) w := fun w => by rw [hZ]; exact zero30 w
  rw [← hZ]
  have H1Z : Hid (OneC Z) := Lib.hid (by rw [hZ]; exact blk_one 0)
  have HB30 : Hid (Try.prog.built 30 [] = some Z.toArray) := Lib.hid (by rw [hZ]; exact built30)
  have HIZ : Hid ((Try.prog.info? 30).map (·.size) = some Z.toArray.size) := Lib.hid (by rw [info30]; simp [H1Z.out.1])
  have HMA := Lib.hid ha
  have HMB := Lib.hid hb
  have hb1 : Below w.heap.size w (w.alloc (.cells Z.toArray 30)) := bA (Below.refl _ _) _
  have hd4 : RowAt (w.alloc (.cells Z.toArray 30)) w.heap.size 30 Z := RowAt.new w 30 Z
  have HV := Lib.hid (hv.next hb1)
  have HD4 := Lib.hid hd4
  have HF := Lib.hid (Fr.of_below (M := fun k => k = xb) hb1)
  have c2 := HV.out.row.cell 2
  have c3 := HV.out.row.cell 3
  simp only [List.getElem?_cons_succ, List.getElem?_cons_zero] at c2 c3
  clear hv hb1 hd4 hw hn hZ ha hb
  go_enter Try.func26, Try.ntmps26
  go_wp2_with fail
  have hcall := find_any _ _ p.a HV.out.ha (by omega) k
  rw [fI_miss HMA.out] at hcall
  refine hcall.mono ?_
  rintro _ _ ⟨rfl, rfl⟩
  clear hcall
  go_wp2_with fail
  have hcall := find_any _ _ p.b HV.out.hb (by omega) k
  rw [fI_miss HMB.out] at hcall
  refine hcall.mono ?_
  rintro _ _ ⟨rfl, rfl⟩
  clear hcall
  go_wp2_with (first | (refine wpList_buildR (t := 30) (parts := #[]) (v := Z) rfl rfl [] rfl HB30.out ?_) | (refine wpList_store_row rfl 30 (.tmp 4) (.tmp 27) rfl w.heap.size Z.toArray rfl rfl 30 Z.toArray HD4.out HIZ.out rfl H1Z.out.2 ?_))
  refine bodyPost_ret (results_ct rfl _ _ w.heap.size Z _ rfl rfl (HD4.out.setRow (l' := Z)) H1Z.out.1) rfl ?_
  exact ⟨rfl, ⟨_, _, _, _, HV.out.fr (fr_setRow _ w.heap.size Z.toArray) (by omega) (not78 HD4.out)⟩, ⟨HF.out.os, HF.out.tape, HF.out.output, by simp, fun k hk hn => (setRow_other _ _ k _ (by omega)).trans (HF.out.block k hk hn)⟩⟩
theorem xget_any (w : World) (xb : Nat) (p : Pu) (h : XR w xb p) (hw : WF p) (hn : NK p) (k : Int) :
    Calls Try.prog 26 #[.pointer (some ⟨xb, 0, none⟩), .int .i64 k] w fun e w' => e = .returned (getV p k) ∧ XR w' xb (getP p k) ∧ Fr (fun k => k = xb) w w' := by
  unfold getV
  cases hl : lookP p k with
  | some c =>
    rw [← get_put hl]
    cases ha : hasK p.a k with
    | true => exact xget_a w xb p h hw hn k c hl ha
    | false =>
      refine xget_b w xb p h hw hn k c hl ha ?_
      rcases look_some hl with hk | hk
      · have := (hasK_iff _ _).2 hk; rw [ha] at this; cases this
      · exact (hasK_iff _ _).2 hk
  | none =>
    have hk := look_none hw hl
    unfold getP
    rw [hl]
    refine xget_z w xb p h hw hn k ?_ ?_
    · cases ha : hasK p.a k with
      | true => exact absurd ((hasK_iff _ _).1 ha) hk.1
      | false => rfl
    · cases ha : hasK p.b k with
      | true => exact absurd ((hasK_iff _ _).1 ha) hk.2
      | false => rfl
end Go.Proofs.Ytefjpljjdjecjaa
