/- The document's New, Drop. -/
import Derived.Test.YtefjpljjdjecjaaYf
namespace Go.Proofs.Ytefjpljjdjecjaa
open Go.RowKit
theorem xnew_not (w : World) (n : Int) (h : n < 1 ∨ 1024 < n) : Calls Try.prog 24 #[.int .i64 n] w fun e w' => e = .returned (.tuple #[.pointer none, .int .i64 1]) ∧ w = w' := by
  go_enter Try.func24, Try.ntmps24
  go_wp2
  all_goals refine bodyPost_ret (by simp [results, Try.results24, go_sem]; rfl) rfl ?_
  all_goals exact ⟨rfl, rfl⟩
theorem xr_new (w : World) (n : Int) : XR (w.alloc (.cells #[.int .i64 n, .int .i64 0, .slice none 0 0, .slice none 0 0, .slice none 0 0, .slice none 0 0] 58)) w.heap.size (newPu n) :=
  ⟨_, _, _, _, RowAt.new w 58 [.int .i64 n, .int .i64 0, .slice none 0 0, .slice none 0 0, .slice none 0 0, .slice none 0 0], HA.nil _, HA.nil _, HA.nil _, HA.nil _⟩
theorem xnew_any (w : World) (n : Int) (h1 : 1 ≤ n) (h2 : n ≤ 1024) : Calls Try.prog 24 #[.int .i64 n] w fun e w' => ∃ xb, e = .returned (.tuple #[.pointer (some ⟨xb, 0, none⟩), .int .i64 0]) ∧ XR w' xb (newPu n) ∧ w.heap.size ≤ xb ∧ Below w.heap.size w w' := by
  have HX := Lib.hid (xr_new w n)
  have HB : Hid (Below w.heap.size w (w.alloc (.cells #[.int .i64 n, .int .i64 0, .slice none 0 0, .slice none 0 0, .slice none 0 0, .slice none 0 0] 58))) := Lib.hid (bA (Below.refl _ _) _)
  go_enter Try.func24, Try.ntmps24
  go_wp2
  all_goals refine bodyPost_ret (by simp [results, Try.results24, go_sem]; rfl) rfl ?_
  all_goals exact ⟨_, rfl, HX.out, Nat.le_refl _, HB.out⟩
def dropV (p : Pu) (k : Int) : Int := if whereP p k = none then 5 else 0
theorem rm_hit_a {p : Pu} (hn : NK p) {k : Int} (hk : hasK p.a k = true) {i : Nat} {e : He} (he : p.a[i]? = some e) (hek : e.1 = k) : rmP p k = { p with a := p.a.eraseIdx i } := by
  have hp := hn.parts
  obtain ⟨t1, t2, t3⟩ := hp.2.2.2.2.1 k ((hasK_iff _ _).1 hk)
  unfold rmP
  rw [rm_erase hp.1 he hek, rm_not t1, rm_not t2, rm_not t3]
theorem rm_hit_b {p : Pu} (hn : NK p) {k : Int} (hk : hasK p.b k = true) {i : Nat} {e : He} (he : p.b[i]? = some e) (hek : e.1 = k) : rmP p k = { p with b := p.b.eraseIdx i } := by
  have hp := hn.parts
  obtain ⟨t1, t2, t3⟩ := hp.2.2.2.2.2.1 k ((hasK_iff _ _).1 hk)
  unfold rmP
  rw [rm_erase hp.2.1 he hek, rm_not t1, rm_not t2, rm_not t3]
theorem rm_hit_c {p : Pu} (hn : NK p) {k : Int} (hk : hasK p.c k = true) {i : Nat} {e : He} (he : p.c[i]? = some e) (hek : e.1 = k) : rmP p k = { p with c := p.c.eraseIdx i } := by
  have hp := hn.parts
  obtain ⟨t1, t2, t3⟩ := hp.2.2.2.2.2.2.1 k ((hasK_iff _ _).1 hk)
  unfold rmP
  rw [rm_erase hp.2.2.1 he hek, rm_not t1, rm_not t2, rm_not t3]
theorem rm_hit_d {p : Pu} (hn : NK p) {k : Int} (hk : hasK p.d k = true) {i : Nat} {e : He} (he : p.d[i]? = some e) (hek : e.1 = k) : rmP p k = { p with d := p.d.eraseIdx i } := by
  have hp := hn.parts
  obtain ⟨t1, t2, t3⟩ := hp.2.2.2.2.2.2.2 k ((hasK_iff _ _).1 hk)
  unfold rmP
  rw [rm_erase hp.2.2.2.1 he hek, rm_not t1, rm_not t2, rm_not t3]
set_option maxHeartbeats 4000000 in
set_option maxRecDepth 100000 in
theorem xdrop_a (w : World) (xb : Nat) (p : Pu) (h : XR w xb p) (hw : WF p) (hn : NK p) (k : Int) (ha : hasK p.a k = true) :
    Calls Try.prog 27 #[.pointer (some ⟨xb, 0, none⟩), .int .i64 k] w fun e w' => e = .returned (.int .i64 (dropV p k)) ∧ XR w' xb (rmP p k) ∧ Fr (fun k => k = xb) w w' := by
  have q1 := hw.h1; have q2 := hw.h2; have q3 := hw.h3; have q4 := hw.rm
  obtain ⟨v1, v2, v3, v4, hv⟩ := h
  have HV := Lib.hid hv
  have HMA := Lib.hid ha
  have c2 := hv.row.cell 2
  have c3 := hv.row.cell 3
  have c4 := hv.row.cell 4
  have c5 := hv.row.cell 5
  simp at c2 c3 c4 c5
  have HN := Lib.hid hn
  clear hv hw hn ha
  go_enter Try.func27, Try.ntmps27
  go_wp2_with fail
  obtain ⟨i, hfi, hi, e, he, hek⟩ := fI_hit HMA.out
  have hcall := find_any w _ p.a HV.out.ha (by omega) k
  rw [hfi] at hcall
  refine hcall.mono ?_
  rintro _ _ ⟨rfl, rfl⟩
  have HI := Lib.hid hi
  have HEI := Lib.hid he
  have HEK := Lib.hid hek
  have hi0 : (0 : Int) ≤ (i : Int) := by omega
  clear hcall hfi hi he hek
  go_wp2_with fail
  refine (without_any w _ p.a HV.out.ha (by omega) i HI.out).mono ?_
  rintro _ W1 ⟨u, rfl, hu, hb1⟩
  obtain ⟨A9, c9, rfl, h91, h92⟩ := hu.shape
  obtain ⟨nn, hnn⟩ : ∃ nn, nn = (p.a.eraseIdx i).length := ⟨_, rfl⟩
  rw [← hnn] at hu h91 ⊢
  have HU := Lib.hid hu
  have HV1 := Lib.hid (HV.out.next hb1)
  have HF := Lib.hid (Fr.of_below (M := fun k => k = xb) hb1)
  have q9 := HV1.out.row.cell 2
  have f9 := HV1.out.row.free 2
  simp at q9
  clear hu hb1 hnn c2 c3 c4 c5
  go_wp2_with fail
  refine bodyPost_ret (by simp [results, Try.results27, go_sem]; rfl) rfl ?_
  refine ⟨?_, ?_, HF.out.setCell (b := xb) rfl _⟩
  · unfold dropV
    rw [if_neg (by unfold whereP; simp [HMA.out])]
  · rw [rm_hit_a HN.out HMA.out HEI.out HEK.out]
    exact ⟨_, _, _, _, HV1.out.setA HU.out⟩
set_option maxHeartbeats 4000000 in
set_option maxRecDepth 100000 in
theorem xdrop_b (w : World) (xb : Nat) (p : Pu) (h : XR w xb p) (hw : WF p) (hn : NK p) (k : Int) (ha : hasK p.a k = false) (hb : hasK p.b k = true) :
    Calls Try.prog 27 #[.pointer (some ⟨xb, 0, none⟩), .int .i64 k] w fun e w' => e = .returned (.int .i64 (dropV p k)) ∧ XR w' xb (rmP p k) ∧ Fr (fun k => k = xb) w w' := by
  have q1 := hw.h1; have q2 := hw.h2; have q3 := hw.h3; have q4 := hw.rm
  obtain ⟨v1, v2, v3, v4, hv⟩ := h
  have HV := Lib.hid hv
  have HMA := Lib.hid ha
  have HMB := Lib.hid hb
  have c2 := hv.row.cell 2
  have c3 := hv.row.cell 3
  have c4 := hv.row.cell 4
  have c5 := hv.row.cell 5
  simp at c2 c3 c4 c5
  have HN := Lib.hid hn
  clear hv hw hn ha hb
  go_enter Try.func27, Try.ntmps27
  go_wp2_with fail
  have hcall := find_any w _ p.a HV.out.ha (by omega) k
  rw [fI_miss HMA.out] at hcall
  refine hcall.mono ?_
  rintro _ _ ⟨rfl, rfl⟩
  clear hcall
  go_wp2_with fail
  obtain ⟨i, hfi, hi, e, he, hek⟩ := fI_hit HMB.out
  have hcall := find_any w _ p.b HV.out.hb (by omega) k
  rw [hfi] at hcall
  refine hcall.mono ?_
  rintro _ _ ⟨rfl, rfl⟩
  have HI := Lib.hid hi
  have HEI := Lib.hid he
  have HEK := Lib.hid hek
  have hi0 : (0 : Int) ≤ (i : Int) := by omega
  clear hcall hfi hi he hek
  go_wp2_with fail
  refine (without_any w _ p.b HV.out.hb (by omega) i HI.out).mono ?_
  rintro _ W1 ⟨u, rfl, hu, hb1⟩
  obtain ⟨A9, c9, rfl, h91, h92⟩ := hu.shape
  obtain ⟨nn, hnn⟩ : ∃ nn, nn = (p.b.eraseIdx i).length := ⟨_, rfl⟩
  rw [← hnn] at hu h91 ⊢
  have HU := Lib.hid hu
  have HV1 := Lib.hid (HV.out.next hb1)
  have HF := Lib.hid (Fr.of_below (M := fun k => k = xb) hb1)
  have q9 := HV1.out.row.cell 3
  have f9 := HV1.out.row.free 3
  simp at q9
  clear hu hb1 hnn c2 c3 c4 c5
  go_wp2_with fail
  refine bodyPost_ret (by simp [results, Try.results27, go_sem]; rfl) rfl ?_
  refine ⟨?_, ?_, HF.out.setCell (b := xb) rfl _⟩
  · unfold dropV
    rw [if_neg (by unfold whereP; simp [HMA.out, HMB.out])]
  · rw [rm_hit_b HN.out HMB.out HEI.out HEK.out]
    exact ⟨_, _, _, _, HV1.out.setB HU.out⟩
set_option maxHeartbeats 4000000 in
set_option maxRecDepth 100000 in
theorem xdrop_c (w : World) (xb : Nat) (p : Pu) (h : XR w xb p) (hw : WF p) (hn : NK p) (k : Int) (ha : hasK p.a k = false) (hb : hasK p.b k = false) (hc : hasK p.c k = true) :
    Calls Try.prog 27 #[.pointer (some ⟨xb, 0, none⟩), .int .i64 k] w fun e w' => e = .returned (.int .i64 (dropV p k)) ∧ XR w' xb (rmP p k) ∧ Fr (fun k => k = xb) w w' := by
  have q1 := hw.h1; have q2 := hw.h2; have q3 := hw.h3; have q4 := hw.rm
  obtain ⟨v1, v2, v3, v4, hv⟩ := h
  have HV := Lib.hid hv
  have HMA := Lib.hid ha
  have HMB := Lib.hid hb
  have HMC := Lib.hid hc
  have c2 := hv.row.cell 2
  have c3 := hv.row.cell 3
  have c4 := hv.row.cell 4
  have c5 := hv.row.cell 5
  simp at c2 c3 c4 c5
  have HN := Lib.hid hn
  clear hv hw hn ha hb hc
  go_enter Try.func27, Try.ntmps27
  go_wp2_with fail
  have hcall := find_any w _ p.a HV.out.ha (by omega) k
  rw [fI_miss HMA.out] at hcall
  refine hcall.mono ?_
  rintro _ _ ⟨rfl, rfl⟩
  clear hcall
  go_wp2_with fail
  have hcall := find_any w _ p.b HV.out.hb (by omega) k
  rw [fI_miss HMB.out] at hcall
  refine hcall.mono ?_
  rintro _ _ ⟨rfl, rfl⟩
  clear hcall
  go_wp2_with fail
  obtain ⟨i, hfi, hi, e, he, hek⟩ := fI_hit HMC.out
  have hcall := find_any w _ p.c HV.out.hc (by omega) k
  rw [hfi] at hcall
  refine hcall.mono ?_
  rintro _ _ ⟨rfl, rfl⟩
  have HI := Lib.hid hi
  have HEI := Lib.hid he
  have HEK := Lib.hid hek
  have hi0 : (0 : Int) ≤ (i : Int) := by omega
  clear hcall hfi hi he hek
  go_wp2_with fail
  refine (without_any w _ p.c HV.out.hc (by omega) i HI.out).mono ?_
  rintro _ W1 ⟨u, rfl, hu, hb1⟩
  obtain ⟨A9, c9, rfl, h91, h92⟩ := hu.shape
  obtain ⟨nn, hnn⟩ : ∃ nn, nn = (p.c.eraseIdx i).length := ⟨_, rfl⟩
  rw [← hnn] at hu h91 ⊢
  have HU := Lib.hid hu
  have HV1 := Lib.hid (HV.out.next hb1)
  have HF := Lib.hid (Fr.of_below (M := fun k => k = xb) hb1)
  have q9 := HV1.out.row.cell 4
  have f9 := HV1.out.row.free 4
  simp at q9
  clear hu hb1 hnn c2 c3 c4 c5
  go_wp2_with fail
  refine bodyPost_ret (by simp [results, Try.results27, go_sem]; rfl) rfl ?_
  refine ⟨?_, ?_, HF.out.setCell (b := xb) rfl _⟩
  · unfold dropV
    rw [if_neg (by unfold whereP; simp [HMA.out, HMB.out, HMC.out])]
  · rw [rm_hit_c HN.out HMC.out HEI.out HEK.out]
    exact ⟨_, _, _, _, HV1.out.setC HU.out⟩
set_option maxHeartbeats 4000000 in
set_option maxRecDepth 100000 in
theorem xdrop_d (w : World) (xb : Nat) (p : Pu) (h : XR w xb p) (hw : WF p) (hn : NK p) (k : Int) (ha : hasK p.a k = false) (hb : hasK p.b k = false) (hc : hasK p.c k = false) (hd : hasK p.d k = true) :
    Calls Try.prog 27 #[.pointer (some ⟨xb, 0, none⟩), .int .i64 k] w fun e w' => e = .returned (.int .i64 (dropV p k)) ∧ XR w' xb (rmP p k) ∧ Fr (fun k => k = xb) w w' := by
  have q1 := hw.h1; have q2 := hw.h2; have q3 := hw.h3; have q4 := hw.rm
  obtain ⟨v1, v2, v3, v4, hv⟩ := h
  have HV := Lib.hid hv
  have HMA := Lib.hid ha
  have HMB := Lib.hid hb
  have HMC := Lib.hid hc
  have HMD := Lib.hid hd
  have c2 := hv.row.cell 2
  have c3 := hv.row.cell 3
  have c4 := hv.row.cell 4
  have c5 := hv.row.cell 5
  simp at c2 c3 c4 c5
  have HN := Lib.hid hn
  clear hv hw hn ha hb hc hd
  go_enter Try.func27, Try.ntmps27
  go_wp2_with fail
  have hcall := find_any w _ p.a HV.out.ha (by omega) k
  rw [fI_miss HMA.out] at hcall
  refine hcall.mono ?_
  rintro _ _ ⟨rfl, rfl⟩
  clear hcall
  go_wp2_with fail
  have hcall := find_any w _ p.b HV.out.hb (by omega) k
  rw [fI_miss HMB.out] at hcall
  refine hcall.mono ?_
  rintro _ _ ⟨rfl, rfl⟩
  clear hcall
  go_wp2_with fail
  have hcall := find_any w _ p.c HV.out.hc (by omega) k
  rw [fI_miss HMC.out] at hcall
  refine hcall.mono ?_
  rintro _ _ ⟨rfl, rfl⟩
  clear hcall
  go_wp2_with fail
  obtain ⟨i, hfi, hi, e, he, hek⟩ := fI_hit HMD.out
  have hcall := find_any w _ p.d HV.out.hd (by omega) k
  rw [hfi] at hcall
  refine hcall.mono ?_
  rintro _ _ ⟨rfl, rfl⟩
  have HI := Lib.hid hi
  have HEI := Lib.hid he
  have HEK := Lib.hid hek
  have hi0 : (0 : Int) ≤ (i : Int) := by omega
  clear hcall hfi hi he hek
  go_wp2_with fail
  refine (without_any w _ p.d HV.out.hd (by omega) i HI.out).mono ?_
  rintro _ W1 ⟨u, rfl, hu, hb1⟩
  obtain ⟨A9, c9, rfl, h91, h92⟩ := hu.shape
  obtain ⟨nn, hnn⟩ : ∃ nn, nn = (p.d.eraseIdx i).length := ⟨_, rfl⟩
  rw [← hnn] at hu h91 ⊢
  have HU := Lib.hid hu
  have HV1 := Lib.hid (HV.out.next hb1)
  have HF := Lib.hid (Fr.of_below (M := fun k => k = xb) hb1)
  have q9 := HV1.out.row.cell 5
  have f9 := HV1.out.row.free 5
  simp at q9
  clear hu hb1 hnn c2 c3 c4 c5
  go_wp2_with fail
  refine bodyPost_ret (by simp [results, Try.results27, go_sem]; rfl) rfl ?_
  refine ⟨?_, ?_, HF.out.setCell (b := xb) rfl _⟩
  · unfold dropV
    rw [if_neg (by unfold whereP; simp [HMA.out, HMB.out, HMC.out, HMD.out])]
  · rw [rm_hit_d HN.out HMD.out HEI.out HEK.out]
    exact ⟨_, _, _, _, HV1.out.setD HU.out⟩
set_option maxHeartbeats 4000000 in
set_option maxRecDepth 100000 in
theorem xdrop_z (w : World) (xb : Nat) (p : Pu) (h : XR w xb p) (hw : WF p) (hn : NK p) (k : Int) (ha : hasK p.a k = false) (hb : hasK p.b k = false) (hc : hasK p.c k = false) (hd : hasK p.d k = false) :
    Calls Try.prog 27 #[.pointer (some ⟨xb, 0, none⟩), .int .i64 k] w fun e w' => e = .returned (.int .i64 (dropV p k)) ∧ XR w' xb (rmP p k) ∧ Fr (fun k => k = xb) w w' := by
  have q1 := hw.h1; have q2 := hw.h2; have q3 := hw.h3; have q4 := hw.rm
  obtain ⟨v1, v2, v3, v4, hv⟩ := h
  have HV := Lib.hid hv
  have HMA := Lib.hid ha
  have HMB := Lib.hid hb
  have HMC := Lib.hid hc
  have HMD := Lib.hid hd
  have c2 := hv.row.cell 2
  have c3 := hv.row.cell 3
  have c4 := hv.row.cell 4
  have c5 := hv.row.cell 5
  simp at c2 c3 c4 c5
  have HN := Lib.hid hn
  clear hv hw hn ha hb hc hd
  go_enter Try.func27, Try.ntmps27
  go_wp2_with fail
  have hcall := find_any w _ p.a HV.out.ha (by omega) k
  rw [fI_miss HMA.out] at hcall
  refine hcall.mono ?_
  rintro _ _ ⟨rfl, rfl⟩
  clear hcall
  go_wp2_with fail
  have hcall := find_any w _ p.b HV.out.hb (by omega) k
  rw [fI_miss HMB.out] at hcall
  refine hcall.mono ?_
  rintro _ _ ⟨rfl, rfl⟩
  clear hcall
  go_wp2_with fail
  have hcall := find_any w _ p.c HV.out.hc (by omega) k
  rw [fI_miss HMC.out] at hcall
  refine hcall.mono ?_
  rintro _ _ ⟨rfl, rfl⟩
  clear hcall
  go_wp2_with fail
  have hcall := find_any w _ p.d HV.out.hd (by omega) k
  rw [fI_miss HMD.out] at hcall
  refine hcall.mono ?_
  rintro _ _ ⟨rfl, rfl⟩
  clear hcall
  go_wp2_with fail
  refine bodyPost_ret (by simp [results, Try.results27, go_sem]; rfl) rfl ?_
  refine ⟨?_, ?_, Fr.refl _ _⟩
  · unfold dropV
    rw [if_pos (by unfold whereP; simp [HMA.out, HMB.out, HMC.out, HMD.out])]
  · have : rmP p k = p := by
      unfold rmP
      rw [rm_not (fun h => by have := (hasK_iff _ _).2 h; rw [HMA.out] at this; cases this), rm_not (fun h => by have := (hasK_iff _ _).2 h; rw [HMB.out] at this; cases this), rm_not (fun h => by have := (hasK_iff _ _).2 h; rw [HMC.out] at this; cases this), rm_not (fun h => by have := (hasK_iff _ _).2 h; rw [HMD.out] at this; cases this)]
    rw [this]
    exact ⟨_, _, _, _, HV.out⟩
theorem xdrop_any (w : World) (xb : Nat) (p : Pu) (h : XR w xb p) (hw : WF p) (hn : NK p) (k : Int) :
    Calls Try.prog 27 #[.pointer (some ⟨xb, 0, none⟩), .int .i64 k] w fun e w' => e = .returned (.int .i64 (dropV p k)) ∧ XR w' xb (rmP p k) ∧ Fr (fun k => k = xb) w w' := by
  cases ha : hasK p.a k with
  | true => exact xdrop_a w xb p h hw hn k ha
  | false =>
    cases hb : hasK p.b k with
    | true => exact xdrop_b w xb p h hw hn k ha hb
    | false =>
      cases hc : hasK p.c k with
      | true => exact xdrop_c w xb p h hw hn k ha hb hc
      | false =>
        cases hd : hasK p.d k with
        | true => exact xdrop_d w xb p h hw hn k ha hb hc hd
        | false => exact xdrop_z w xb p h hw hn k ha hb hc hd
end Go.Proofs.Ytefjpljjdjecjaa
