/- have. -/
import Derived.Test.YtefjpljjdjecjaaWg
namespace Go.Proofs.Ytefjpljjdjecjaa
open Go.RowKit
def setT (s : Cs) (t : Int) : Cs := { s with target := t }
theorem setT_goes {w : World} {cb : Nat} {s : Cs} (h : CA w cb s) (t : Int) (ht : 0 ≤ t ∧ t ≤ s.room) : Goes cb s (setT s t) w (.returned (.tuple #[])) (w.setCell ⟨cb, 14, none⟩ (.int .i64 t)) := by
  have hf : Fr (Own cb s) w (w.setCell ⟨cb, 14, none⟩ (.int .i64 t)) := (Fr.refl _ _).setCell (b := cb) (i := 14) (.inl rfl) _
  have hf1 : Fr (· = cb) w (w.setCell ⟨cb, 14, none⟩ (.int .i64 t)) := (Fr.refl _ _).setCell (M := (· = cb)) (b := cb) (i := 14) rfl _
  refine ⟨rfl, ⟨⟨h.ra.row.set 14 (.int .i64 t), fun r hr => (h.ra.lk r hr).set cb 14 _ fun x hx => h.ra.ne x (mem_allI.2 ⟨r, hr, hx⟩), h.ra.nd, h.ra.ne, h.ra.len⟩, h.mp.fr hf1 h.mc, h.nk, h.mc, h.mi, fun x hx d hd => ⟨(h.dt x hx d hd).1.fr hf (h.dt x hx d hd).2, (h.dt x hx d hd).2⟩, h.rm, ht⟩, hf, fun k hk => .inl hk⟩
def adj2 (s : Cs) : Int := min s.room (s.target + max 1 (((s.R 3).length : Int) / (s.R 2).length))
def adj3 (s : Cs) : Int := max 0 (s.target - max 1 (((s.R 2).length : Int) / (s.R 3).length))
theorem adj2_in {w : World} {cb : Nat} {s : Cs} (h : CA w cb s) : 0 ≤ adj2 s ∧ adj2 s ≤ s.room := by
  have := h.tg; have := h.rm; unfold adj2; omega
theorem adj3_in {w : World} {cb : Nat} {s : Cs} (h : CA w cb s) : 0 ≤ adj3 s ∧ adj3 s ≤ s.room := by
  have := h.tg; have := h.rm; unfold adj3; omega
/-- What comes ahead of the move. -/
def havePre (s : Cs) (r : Nat) : Cs := if r = 2 then roomF (setT s (adj2 s)) false else if r = 3 then roomF (setT s (adj3 s)) true else s
theorem mem_split {l : List It} {x : It} (h : x ∈ l) : ∃ A B, l = A ++ x :: B := List.append_of_mem h
theorem ghost_stays {s : Cs} {f g r : Nat} (hr : r ≠ f) {x : It} (h : x ∈ s.R r) : x ∈ (ghostF s f g).R r := by
  unfold ghostF
  split
  · exact h
  · rename_i y L hf
    show x ∈ upd (upd s.R f L) g (s.R g ++ [_]) r
    unfold upd
    split
    · rename_i e; subst e; exact List.mem_append_left _ h
    · first | exact h | (rw [if_neg hr]; exact h)
theorem room_stays {s : Cs} {g : Bool} {r : Nat} (hr : 2 ≤ r) {x : It} (h : x ∈ s.R r) : x ∈ (roomF s g).R r := by
  unfold roomF
  split
  · exact h
  · split
    · exact ghost_stays (by omega) h
    · exact ghost_stays (by omega) h
theorem havePre_stays {s : Cs} {r : Nat} {x : It} (h : x ∈ s.R r) : x ∈ (havePre s r).R r := by
  unfold havePre
  split
  · exact room_stays (by omega) h
  · split
    · exact room_stays (by omega) h
    · exact h
theorem zero62 (w : World) : (zeroValue 62).run Try.prog w = .ok (.pointer none) w := by kernel_rfl
set_option maxHeartbeats 4000000 in
theorem have_none (w : World) (cb : Nat) (s : Cs) (h : CA w cb s) (hs : Small s) (key : Int) (hk : fk (allI s.R) key = none) (d : Nat) (v : List Value) (hv : RowAt w d 30 v) (hdo : ¬ Own cb s d) :
    Calls Try.prog 30 #[.pointer (some ⟨cb, 0, none⟩), .int .i64 key, .pointer (some ⟨d, 0, none⟩)] w (MeetPost cb s (meetPre s) key d v w) := by
  have p12 : w.cell? ⟨cb, 12, none⟩ = some (.map (some s.mb)) := h.ra.row.cell 12
  have hr := run_look (P := Try.prog) h.mp Try.underlying61 Try.underlying3 (.pointer none) (zero62 w) key
  have hm : mapOf s.R key = none := by unfold mapOf; rw [hk]; rfl
  rw [hm] at hr
  have HR := Lib.hid hr
  have H := Lib.hid (meet_any w cb s h hs key hk d v hv hdo)
  clear h hs hk hv hdo hr hm
  go_enter Try.func30, Try.ntmps30
  go_wp2_with (at_lookup; refine wpList_look rfl rfl rfl rfl HR.out ?_)
  refine H.out.mono ?_
  rintro e w1 ⟨xb, hx, hg⟩
  have HG := Lib.hid hg
  obtain rfl := hg.1
  clear hg
  go_wp2
  first | go_end0 | (refine bodyPost_ret (results_none rfl _ _ _) rfl ?_)
  exact ⟨xb, hx, HG.out⟩
set_option maxHeartbeats 4000000 in
theorem have_go (w : World) (cb : Nat) (s : Cs) (h : CA w cb s) (hs : Small s) (key : Int) (x : It) (r : Nat) (hr : r < 4) (hx : x ∈ s.R r) (hk : x.key = key) (d : Nat) (v : List Value) (hv : RowAt w d 30 v) (hdo : ¬ Own cb s d)
    (b1 b2 room target : Int) (H3 : Hid (b1 = (s.R 2).length)) (H4 : Hid (b2 = (s.R 3).length)) (hroom : room = s.room) (htarget : target = s.target) (h30 : 0 ≤ b1) (h31 : b1 ≤ 100000) (h40 : 0 ≤ b2) (h41 : b2 ≤ 100000) (r1 : 1 ≤ room) (r2 : room ≤ 1024) (t1 : 0 ≤ target) (t2 : target ≤ room) (c : r < 2 ∨ (r = 2 ∧ 0 < b1) ∨ (r = 3 ∧ 0 < b2)) :
    Calls Try.prog 30 #[.pointer (some ⟨cb, 0, none⟩), .int .i64 key, .pointer (some ⟨d, 0, none⟩)] w (Goes cb s (moveF (havePre s r) { x with d := some d, v := v }) w) := by
  have p12 : w.cell? ⟨cb, 12, none⟩ = some (.map (some s.mb)) := h.ra.row.cell 12
  have hrun := run_look (P := Try.prog) h.mp Try.underlying61 Try.underlying3 (.pointer none) (zero62 w) key
  have hm : mapOf s.R key = some (ptr (some x.b)) := by
    unfold mapOf
    rw [(fk_iff h.nk key x).2 ⟨mem_allI.2 ⟨r, hr, hx⟩, hk⟩]; rfl
  rw [hm] at hrun
  simp only [Option.getD_some, ptr] at hrun
  obtain ⟨p', n', hX⟩ := (h.ra.lk r hr).mem hx
  have x1 := hX.cell 1
  simp [itCells] at x1
  have HR := Lib.hid hrun
  have H := Lib.hid h
  have HX := Lib.hid hX
  have HV := Lib.hid hv
  have HS := Lib.hid hs
  have HM := Lib.hid hx
  have HG0 : Hid (Goes cb s s w (.returned (.tuple #[])) w) := Lib.hid ⟨rfl, h, Fr.refl _ _, fun k hk => .inl hk⟩
  clear h hX hv hs hrun hm hk hx
  rcases c with c | ⟨rfl, c⟩ | ⟨rfl, c⟩
  · have q1 : ((r : Int) == 2) = false := by simp; omega
    have q2 : ((r : Int) == 3) = false := by simp; omega
    go_enter Try.func30, Try.ntmps30
    go_wp2_with (at_lookup; refine wpList_look rfl rfl rfl rfl HR.out ?_)
    have HG := HG0
    have hxr : x ∈ s.R r := HM.out
    obtain ⟨L1, L2, hsp⟩ := mem_split hxr
    have HSP := Lib.hid hsp
    have HL : Hid ((s.R 1).length < 100000) := Lib.hid (by have := HS.out 1 (by decide); omega)
    clear hsp hxr
    go_wp2_with fail
    refine (detach_any _ cb s.R _ _ _ HG.out.2.1.ra r (by omega) L1 x L2 HSP.out).mono ?_
    rintro e w1 ⟨rfl, ra1, hX1, hf1⟩
    have hx1 : x ∈ allI s.R := mem_allI.2 ⟨r, by omega, by rw [HSP.out]; simp⟩
    have hxc : x.b ≠ cb := HG.out.2.1.ra.ne x hx1
    have hperm := allI_del (R := s.R) (r := r) (by omega) HSP.out
    have hndp := (hperm.map (·.b)).nodup_iff.1 HG.out.2.1.ra.nd
    simp only [List.map_cons, List.nodup_cons, List.mem_map, not_exists, not_and] at hndp
    have x2 := hX1.cell 2
    have g2 := hX1.free 2
    simp [itCells] at x2
    have HP := Lib.hid hperm
    have HN := Lib.hid hndp
    have HF1 := Lib.hid hf1
    have HRA1 := Lib.hid ra1
    have HX1 := Lib.hid hX1
    clear hperm hndp hf1 ra1 hX1
    go_wp2_with fail
    clear x2 g2
    have hX2 := HX1.out.set 2 (.pointer (some ⟨d, 0, none⟩))
    have hf2 : Fr (· = x.b) w1 (w1.setCell ⟨x.b, 2, none⟩ (.pointer (some ⟨d, 0, none⟩))) := (Fr.refl (fun k => k = x.b) w1).setCell (M := fun k => k = x.b) (b := x.b) (i := 2) rfl _
    generalize w1.setCell ⟨x.b, 2, none⟩ (.pointer (some ⟨d, 0, none⟩)) = w2 at *
    simp only [itCells, List.set_cons_succ, List.set_cons_zero] at hX2
    have ra2 := HRA1.out.fr hf2 (Ne.symm hxc) (fun y hy => HN.out.1 y hy)
    have hlen : (upd s.R r (L1 ++ L2) 1).length < 100000 := by
      unfold upd
      split
      · rename_i e; have := HL.out; rw [e, HSP.out] at this; simp at this ⊢; omega
      · exact HL.out
    refine (attach_val w2 cb (upd s.R r (L1 ++ L2)) _ _ _ 1 1 rfl { x with d := some d, v := v } _ _ _ ra2 (by decide) hX2 hxc (fun y hy => HN.out.1 y hy) hlen).mono ?_
    rintro e w3 ⟨rfl, ra3, hf3⟩
    go_wp2
    go_end0
    have hdo1 : ¬ Own cb s d := fun hh => by
      rcases HG.out.2.2.2 d hh with h2 | h2
      · exact hdo h2
      · have := HV.out.lt; omega
    have hg := move_goes HG.out.2.1 (r := r) (by omega) HSP.out d v (HV.out.fr HG.out.2.2.1 hdo) hdo1 HF1.out hf2 ra3 hf3
    have hp : havePre s r = s := by unfold havePre; rw [if_neg (by omega), if_neg (by omega)]
    rw [hp]; exact hg
  · replace x1 : w.cell? ⟨x.b, 1, none⟩ = some (.int .i64 2) := x1
    go_enter Try.func30, Try.ntmps30
    go_wp2_with (at_lookup; refine wpList_look rfl rfl rfl rfl HR.out ?_)
    refine wp_region_parts (by kernel_rfl) (by kernel_rfl) ?_
    have hb0 : Below w.heap.size w w.drew := (Below.refl _ _).drew
    generalize w.drew = W at *
    apply regL_lq W.heap.size
    intro D hD hn
    have raX := fun x : Bd W.heap.size W D => Lib.hid (H.out.ra.nextb (bt hb0 x.ok))
    repeat (apply wpLQ_pin rfl rfl; intro K hK; go_big_quiet_op; (first | go_big_quiet_on | go_big_quiet_call (first | (go_at_call 40; with_reducible exact Calls.bds _ (size_val _ cb s.R _ _ _ 2 2 b1 (by decide) rfl H3.out (raX _).out)) | (go_at_call 40; with_reducible exact Calls.bds _ (size_val _ cb s.R _ _ _ 3 3 b2 (by decide) rfl H4.out (raX _).out)))); apply And.intro rfl)
    apply wpLQ_nil (by simp)
    intro W1 hb _
    clear raX hn hD
    replace hb := bt hb0 hb
    clear hb0
    obtain ⟨st, hst⟩ : ∃ st, st = (if 1 < b2 / b1 then b2 / b1 else 1) := ⟨_, rfl⟩
    rw [← hst]
    have hdv : b2 / b1 ≤ b2 := Int.ediv_le_self _ (by omega)
    have s1 : 1 ≤ st := by rw [hst]; split <;> omega
    have s2 : st ≤ 100000 := by rw [hst]; split <;> omega
    have HST := Lib.hid hst
    clear hst hdv p12 x1
    have HA := Lib.hid (H.out.nextb hb)
    have HB := Lib.hid hb
    clear hb
    go_wp2_with fail
    refine wp_region_parts (by kernel_rfl) (by kernel_rfl) ?_
    have hb0 : Below W1.heap.size W1 W1.drew := (Below.refl _ _).drew
    generalize W1.drew = W2 at *
    apply regL_lq W2.heap.size
    intro D hD hn
    have p13 := fun x : Bd W2.heap.size W2 D => (HA.out.ra.row.next (bt hb0 x.ok)).cell 13
    have p14 := fun x : Bd W2.heap.size W2 D => (HA.out.ra.row.next (bt hb0 x.ok)).cell 14
    have e13 : (cells s.R (.map (some s.mb)) s.room s.target)[13]? = some (.int .i64 room) := by rw [hroom]; rfl
    have e14 : (cells s.R (.map (some s.mb)) s.room s.target)[14]? = some (.int .i64 target) := by rw [htarget]; rfl
    simp only [e13] at p13
    simp only [e14] at p14
    repeat (apply wpLQ_pin rfl rfl; intro K hK; go_big_quiet_op; go_big_quiet_on; apply And.intro rfl)
    apply wpLQ_end (bar_of (by kernel_rfl))
    intro W3 hb3 _
    clear p13 p14 e13 e14 hn hD
    have HA2 := Lib.hid (HA.out.nextb (bt hb0 hb3))
    have c14 := HA2.out.ra.row.cell 14
    have g14 := HA2.out.ra.row.free 14
    have e14 : (cells s.R (.map (some s.mb)) s.room s.target)[14]? = some (.int .i64 target) := by rw [htarget]; rfl
    rw [e14] at c14
    apply regL_one (bar_of (by kernel_rfl)) rfl
    unfold Oper.wp
    go_simp
    apply regL_nil
    clear g14 c14 e14
    have hT : (if s.target + st < s.room then s.target + st else s.room) = adj2 s := by
      unfold adj2
      rw [← H3.out, ← H4.out, HST.out]
      split <;> split <;> omega
    have HBB := Lib.hid (bt HB.out (bt hb0 hb3))
    clear hb0 hb3
    rw [hT]
    have hG1 := setT_goes HA2.out (adj2 s) (adj2_in HA2.out)
    generalize W3.setCell ⟨cb, 14, none⟩ (.int .i64 (adj2 s)) = W4 at *
    have HG1 := Lib.hid (hG1.drop HBB.out)
    clear hG1 hT
    go_wp2_with fail
    refine (room_any _ cb (setT s (adj2 s)) false HG1.out.2.1 (by have := HS.out 2 (by decide); show (s.R 2).length < 100000; omega) (by have := HS.out 3 (by decide); show (s.R 3).length < 100000; omega)).mono ?_
    rintro e w5 hg
    have HG := Lib.hid (HG1.out.trans hg)
    obtain rfl := hg.1
    clear hg
    have hxr : x ∈ (roomF (setT s (adj2 s)) false).R 2 := room_stays (s := setT s (adj2 s)) (by decide) HM.out
    obtain ⟨L1, L2, hsp⟩ := mem_split hxr
    have HSP := Lib.hid hsp
    have HL : Hid (((roomF (setT s (adj2 s)) false).R 1).length < 100000) := Lib.hid (by have := room_len (s := setT s (adj2 s)) HS.out false 1 (by decide); omega)
    clear hsp hxr
    go_wp2_with fail
    refine (detach_any _ cb (roomF (setT s (adj2 s)) false).R _ _ _ HG.out.2.1.ra 2 (by omega) L1 x L2 HSP.out).mono ?_
    rintro e w1 ⟨rfl, ra1, hX1, hf1⟩
    have hx1 : x ∈ allI (roomF (setT s (adj2 s)) false).R := mem_allI.2 ⟨2, by omega, by rw [HSP.out]; simp⟩
    have hxc : x.b ≠ cb := HG.out.2.1.ra.ne x hx1
    have hperm := allI_del (R := (roomF (setT s (adj2 s)) false).R) (r := 2) (by omega) HSP.out
    have hndp := (hperm.map (·.b)).nodup_iff.1 HG.out.2.1.ra.nd
    simp only [List.map_cons, List.nodup_cons, List.mem_map, not_exists, not_and] at hndp
    have x2 := hX1.cell 2
    have g2 := hX1.free 2
    simp [itCells] at x2
    have HP := Lib.hid hperm
    have HN := Lib.hid hndp
    have HF1 := Lib.hid hf1
    have HRA1 := Lib.hid ra1
    have HX1 := Lib.hid hX1
    clear hperm hndp hf1 ra1 hX1
    go_wp2_with fail
    clear x2 g2
    have hX2 := HX1.out.set 2 (.pointer (some ⟨d, 0, none⟩))
    have hf2 : Fr (· = x.b) w1 (w1.setCell ⟨x.b, 2, none⟩ (.pointer (some ⟨d, 0, none⟩))) := (Fr.refl (fun k => k = x.b) w1).setCell (M := fun k => k = x.b) (b := x.b) (i := 2) rfl _
    generalize w1.setCell ⟨x.b, 2, none⟩ (.pointer (some ⟨d, 0, none⟩)) = w2 at *
    simp only [itCells, List.set_cons_succ, List.set_cons_zero] at hX2
    have ra2 := HRA1.out.fr hf2 (Ne.symm hxc) (fun y hy => HN.out.1 y hy)
    have hlen : (upd (roomF (setT s (adj2 s)) false).R 2 (L1 ++ L2) 1).length < 100000 := by
      unfold upd
      split
      · rename_i e; have := HL.out; rw [e, HSP.out] at this; simp at this ⊢; omega
      · exact HL.out
    refine (attach_val w2 cb (upd (roomF (setT s (adj2 s)) false).R 2 (L1 ++ L2)) _ _ _ 1 1 rfl { x with d := some d, v := v } _ _ _ ra2 (by decide) hX2 hxc (fun y hy => HN.out.1 y hy) hlen).mono ?_
    rintro e w3 ⟨rfl, ra3, hf3⟩
    go_wp2
    go_end0
    have hdo1 : ¬ Own cb (roomF (setT s (adj2 s)) false) d := fun hh => by
      rcases HG.out.2.2.2 d hh with h2 | h2
      · exact hdo h2
      · have := HV.out.lt; omega
    have hg := move_goes HG.out.2.1 (r := 2) (by omega) HSP.out d v (HV.out.fr HG.out.2.2.1 hdo) hdo1 HF1.out hf2 ra3 hf3
    exact HG.out.trans hg
  · replace x1 : w.cell? ⟨x.b, 1, none⟩ = some (.int .i64 3) := x1
    go_enter Try.func30, Try.ntmps30
    go_wp2_with (at_lookup; refine wpList_look rfl rfl rfl rfl HR.out ?_)
    refine wp_region_parts (by kernel_rfl) (by kernel_rfl) ?_
    have hb0 : Below w.heap.size w w.drew := (Below.refl _ _).drew
    generalize w.drew = W at *
    apply regL_lq W.heap.size
    intro D hD hn
    have raX := fun x : Bd W.heap.size W D => Lib.hid (H.out.ra.nextb (bt hb0 x.ok))
    repeat (apply wpLQ_pin rfl rfl; intro K hK; go_big_quiet_op; (first | go_big_quiet_on | go_big_quiet_call (first | (go_at_call 40; with_reducible exact Calls.bds _ (size_val _ cb s.R _ _ _ 2 2 b1 (by decide) rfl H3.out (raX _).out)) | (go_at_call 40; with_reducible exact Calls.bds _ (size_val _ cb s.R _ _ _ 3 3 b2 (by decide) rfl H4.out (raX _).out)))); apply And.intro rfl)
    apply wpLQ_nil (by simp)
    intro W1 hb _
    clear raX hn hD
    replace hb := bt hb0 hb
    clear hb0
    obtain ⟨st, hst⟩ : ∃ st, st = (if 1 < b1 / b2 then b1 / b2 else 1) := ⟨_, rfl⟩
    rw [← hst]
    have hdv : b1 / b2 ≤ b1 := Int.ediv_le_self _ (by omega)
    have s1 : 1 ≤ st := by rw [hst]; split <;> omega
    have s2 : st ≤ 100000 := by rw [hst]; split <;> omega
    have HST := Lib.hid hst
    clear hst hdv p12 x1
    have HA := Lib.hid (H.out.nextb hb)
    have HB := Lib.hid hb
    clear hb
    have c14 := HA.out.ra.row.cell 14
    have g14 := HA.out.ra.row.free 14
    have e14 : (cells s.R (.map (some s.mb)) s.room s.target)[14]? = some (.int .i64 target) := by rw [htarget]; rfl
    rw [e14] at c14
    clear e14
    have HBB := HB
    have hT : (if 0 < target - st then target - st else 0) = adj3 s := by
      unfold adj3
      rw [← H3.out, ← H4.out, HST.out, ← htarget]
      split <;> split <;> omega
    have HT0 := Lib.hid hT
    have HTG := Lib.hid htarget
    clear hT htarget
    go_wp2_with fail
    · have HTT : Hid (target - st = adj3 s) := Lib.hid (by have := HT0.out; split at this <;> omega)
      clear g14 c14
      have hG1 := setT_goes HA.out (target - st) (by have := adj3_in HA.out; rw [← HTT.out] at this; exact this)
      generalize W1.setCell ⟨cb, 14, none⟩ (.int .i64 (target - st)) = W4 at *
      rw [HTT.out] at hG1
      have hT := trivial
      have HG1 := Lib.hid (hG1.drop HBB.out)
      clear hG1 hT
      refine (room_any _ cb (setT s (adj3 s)) true HG1.out.2.1 (by have := HS.out 2 (by decide); show (s.R 2).length < 100000; omega) (by have := HS.out 3 (by decide); show (s.R 3).length < 100000; omega)).mono ?_
      rintro e w5 hg
      have HG := Lib.hid (HG1.out.trans hg)
      obtain rfl := hg.1
      clear hg
      have hxr : x ∈ (roomF (setT s (adj3 s)) true).R 3 := room_stays (s := setT s (adj3 s)) (by decide) HM.out
      obtain ⟨L1, L2, hsp⟩ := mem_split hxr
      have HSP := Lib.hid hsp
      have HL : Hid (((roomF (setT s (adj3 s)) true).R 1).length < 100000) := Lib.hid (by have := room_len (s := setT s (adj3 s)) HS.out true 1 (by decide); omega)
      clear hsp hxr
      go_wp2_with fail
      refine (detach_any _ cb (roomF (setT s (adj3 s)) true).R _ _ _ HG.out.2.1.ra 3 (by omega) L1 x L2 HSP.out).mono ?_
      rintro e w1 ⟨rfl, ra1, hX1, hf1⟩
      have hx1 : x ∈ allI (roomF (setT s (adj3 s)) true).R := mem_allI.2 ⟨3, by omega, by rw [HSP.out]; simp⟩
      have hxc : x.b ≠ cb := HG.out.2.1.ra.ne x hx1
      have hperm := allI_del (R := (roomF (setT s (adj3 s)) true).R) (r := 3) (by omega) HSP.out
      have hndp := (hperm.map (·.b)).nodup_iff.1 HG.out.2.1.ra.nd
      simp only [List.map_cons, List.nodup_cons, List.mem_map, not_exists, not_and] at hndp
      have x2 := hX1.cell 2
      have g2 := hX1.free 2
      simp [itCells] at x2
      have HP := Lib.hid hperm
      have HN := Lib.hid hndp
      have HF1 := Lib.hid hf1
      have HRA1 := Lib.hid ra1
      have HX1 := Lib.hid hX1
      clear hperm hndp hf1 ra1 hX1
      go_wp2_with fail
      clear x2 g2
      have hX2 := HX1.out.set 2 (.pointer (some ⟨d, 0, none⟩))
      have hf2 : Fr (· = x.b) w1 (w1.setCell ⟨x.b, 2, none⟩ (.pointer (some ⟨d, 0, none⟩))) := (Fr.refl (fun k => k = x.b) w1).setCell (M := fun k => k = x.b) (b := x.b) (i := 2) rfl _
      generalize w1.setCell ⟨x.b, 2, none⟩ (.pointer (some ⟨d, 0, none⟩)) = w2 at *
      simp only [itCells, List.set_cons_succ, List.set_cons_zero] at hX2
      have ra2 := HRA1.out.fr hf2 (Ne.symm hxc) (fun y hy => HN.out.1 y hy)
      have hlen : (upd (roomF (setT s (adj3 s)) true).R 3 (L1 ++ L2) 1).length < 100000 := by
        unfold upd
        split
        · rename_i e; have := HL.out; rw [e, HSP.out] at this; simp at this ⊢; omega
        · exact HL.out
      refine (attach_val w2 cb (upd (roomF (setT s (adj3 s)) true).R 3 (L1 ++ L2)) _ _ _ 1 1 rfl { x with d := some d, v := v } _ _ _ ra2 (by decide) hX2 hxc (fun y hy => HN.out.1 y hy) hlen).mono ?_
      rintro e w3 ⟨rfl, ra3, hf3⟩
      go_wp2
      go_end0
      have hdo1 : ¬ Own cb (roomF (setT s (adj3 s)) true) d := fun hh => by
        rcases HG.out.2.2.2 d hh with h2 | h2
        · exact hdo h2
        · have := HV.out.lt; omega
      have hg := move_goes HG.out.2.1 (r := 3) (by omega) HSP.out d v (HV.out.fr HG.out.2.2.1 hdo) hdo1 HF1.out hf2 ra3 hf3
      exact HG.out.trans hg
    · have HTT : Hid (0 = adj3 s) := Lib.hid (by have := HT0.out; split at this <;> omega)
      clear g14 c14
      have hG1 := setT_goes HA.out (0) (by have := adj3_in HA.out; rw [← HTT.out] at this; exact this)
      generalize W1.setCell ⟨cb, 14, none⟩ (.int .i64 (0)) = W4 at *
      rw [HTT.out] at hG1
      have hT := trivial
      have HG1 := Lib.hid (hG1.drop HBB.out)
      clear hG1 hT
      refine (room_any _ cb (setT s (adj3 s)) true HG1.out.2.1 (by have := HS.out 2 (by decide); show (s.R 2).length < 100000; omega) (by have := HS.out 3 (by decide); show (s.R 3).length < 100000; omega)).mono ?_
      rintro e w5 hg
      have HG := Lib.hid (HG1.out.trans hg)
      obtain rfl := hg.1
      clear hg
      have hxr : x ∈ (roomF (setT s (adj3 s)) true).R 3 := room_stays (s := setT s (adj3 s)) (by decide) HM.out
      obtain ⟨L1, L2, hsp⟩ := mem_split hxr
      have HSP := Lib.hid hsp
      have HL : Hid (((roomF (setT s (adj3 s)) true).R 1).length < 100000) := Lib.hid (by have := room_len (s := setT s (adj3 s)) HS.out true 1 (by decide); omega)
      clear hsp hxr
      go_wp2_with fail
      refine (detach_any _ cb (roomF (setT s (adj3 s)) true).R _ _ _ HG.out.2.1.ra 3 (by omega) L1 x L2 HSP.out).mono ?_
      rintro e w1 ⟨rfl, ra1, hX1, hf1⟩
      have hx1 : x ∈ allI (roomF (setT s (adj3 s)) true).R := mem_allI.2 ⟨3, by omega, by rw [HSP.out]; simp⟩
      have hxc : x.b ≠ cb := HG.out.2.1.ra.ne x hx1
      have hperm := allI_del (R := (roomF (setT s (adj3 s)) true).R) (r := 3) (by omega) HSP.out
      have hndp := (hperm.map (·.b)).nodup_iff.1 HG.out.2.1.ra.nd
      simp only [List.map_cons, List.nodup_cons, List.mem_map, not_exists, not_and] at hndp
      have x2 := hX1.cell 2
      have g2 := hX1.free 2
      simp [itCells] at x2
      have HP := Lib.hid hperm
      have HN := Lib.hid hndp
      have HF1 := Lib.hid hf1
      have HRA1 := Lib.hid ra1
      have HX1 := Lib.hid hX1
      clear hperm hndp hf1 ra1 hX1
      go_wp2_with fail
      clear x2 g2
      have hX2 := HX1.out.set 2 (.pointer (some ⟨d, 0, none⟩))
      have hf2 : Fr (· = x.b) w1 (w1.setCell ⟨x.b, 2, none⟩ (.pointer (some ⟨d, 0, none⟩))) := (Fr.refl (fun k => k = x.b) w1).setCell (M := fun k => k = x.b) (b := x.b) (i := 2) rfl _
      generalize w1.setCell ⟨x.b, 2, none⟩ (.pointer (some ⟨d, 0, none⟩)) = w2 at *
      simp only [itCells, List.set_cons_succ, List.set_cons_zero] at hX2
      have ra2 := HRA1.out.fr hf2 (Ne.symm hxc) (fun y hy => HN.out.1 y hy)
      have hlen : (upd (roomF (setT s (adj3 s)) true).R 3 (L1 ++ L2) 1).length < 100000 := by
        unfold upd
        split
        · rename_i e; have := HL.out; rw [e, HSP.out] at this; simp at this ⊢; omega
        · exact HL.out
      refine (attach_val w2 cb (upd (roomF (setT s (adj3 s)) true).R 3 (L1 ++ L2)) _ _ _ 1 1 rfl { x with d := some d, v := v } _ _ _ ra2 (by decide) hX2 hxc (fun y hy => HN.out.1 y hy) hlen).mono ?_
      rintro e w3 ⟨rfl, ra3, hf3⟩
      go_wp2
      go_end0
      have hdo1 : ¬ Own cb (roomF (setT s (adj3 s)) true) d := fun hh => by
        rcases HG.out.2.2.2 d hh with h2 | h2
        · exact hdo h2
        · have := HV.out.lt; omega
      have hg := move_goes HG.out.2.1 (r := 3) (by omega) HSP.out d v (HV.out.fr HG.out.2.2.1 hdo) hdo1 HF1.out hf2 ra3 hf3
      exact HG.out.trans hg

end Go.Proofs.Ytefjpljjdjecjaa
