/- ArcPlays: the walk. -/
import Derived.Test.YtefjpljjdjecjaaYt
import Derived.Test.YtefjpljjdjecjaaXf
import Derived.Test.YtefjpljjdjecjaaXh
import Derived.Test.YtefjpljjdjecjaaXa
import Derived.Deep.RegionHeld3
namespace Go.Proofs.Ytefjpljjdjecjaa
open Go.RowKit
/-- Blocks of the document's cache, and blocks that hold what was put. -/
def TY (w : World) (k : Nat) : Prop := ∃ cs ty fz, w.heap[k]? = some (.cells cs ty fz) ∧ (ty = 58 ∨ ty = 78 ∨ ty = 30)
theorem TY.lt {w : World} {k : Nat} (h : TY w k) : k < w.heap.size := by
  obtain ⟨cs, ty, fz, h, _⟩ := h
  exact (Array.getElem?_eq_some_iff.1 h).1
theorem CA.ty {w : World} {cb : Nat} {s : Cs} (h : CA w cb s) {k : Nat} (hk : Own cb s k) : ¬ TY w k := by
  rintro ⟨cs, ty, fz, h1, h2⟩
  rcases hk with rfl | rfl | ⟨x, hx, rfl⟩
  · have := h.ra.row
    unfold RowAt at this
    rw [this] at h1
    simp only [Option.some.injEq, Obj.cells.injEq] at h1
    rcases h2 with h2 | h2 | h2 <;> exact absurd (h1.2.1.trans h2) (by decide)
  · obtain ⟨es, cl, h3, _⟩ := h.mp
    rw [h3] at h1; cases h1
  · obtain ⟨r, hr, hxr⟩ := mem_allI.1 hx
    obtain ⟨p, n, hX⟩ := (h.ra.lk r hr).mem hxr
    unfold RowAt at hX
    rw [hX] at h1
    simp only [Option.some.injEq, Obj.cells.injEq] at h1
    rcases h2 with h2 | h2 | h2 <;> exact absurd (h1.2.1.trans h2) (by decide)
theorem PA.ty {A : Nat → Prop} {w : World} {cb : Nat} {p : Pu} (h : PA A w cb p) : PA (fun k => A k ∨ TY w k) w cb p := by
  obtain ⟨s, h1, h2, h3, h4, h5⟩ := h
  refine ⟨s, h1, h2, h3, h4, fun k hk ho => ?_⟩
  rcases hk with hk | hk
  · exact h5 k hk ho
  · exact h1.ty ho hk
theorem XR.kp {M : Nat → Prop} {w w' : World} {xb : Nat} {p : Pu} (h : XR w xb p) (hf : Fr M w w') (hm : ∀ k, TY w k → ¬ M k) : XR w' xb p := by
  obtain ⟨v1, v2, v3, v4, h⟩ := h
  exact ⟨v1, v2, v3, v4, h.fr hf (hm xb ⟨_, _, _, h.row, .inl rfl⟩) fun k cs fz hk => hm k ⟨cs, 78, fz, hk, .inr (.inl rfl)⟩⟩
theorem XR.row {w : World} {xb : Nat} {p : Pu} (h : XR w xb p) : ∃ l, RowAt w xb 58 l := by
  obtain ⟨v1, v2, v3, v4, h⟩ := h
  exact ⟨_, h.row⟩
theorem PA.xr {A : Nat → Prop} {w w' : World} {cb xb : Nat} {p : Pu} (h : PA A w cb p) (hf : Fr (fun k => k = xb) w w') (hr : ∃ l, RowAt w xb 58 l) : PA A w' cb p := by
  obtain ⟨s, h1, h2, h3, h4, h5⟩ := h
  obtain ⟨l, hl⟩ := hr
  refine ⟨s, h1.fr2 hf (fun k hk e => ?_) (fun d v hv e => ?_), h2, h3, h4, h5⟩
  · subst e
    exact h1.ty hk ⟨_, _, _, hl, .inl rfl⟩
  · subst e
    unfold RowAt at hl hv
    rw [hl] at hv
    simp at hv
/-- The other one is kept while this one works. -/
theorem PA.kept {A A' : Nat → Prop} {w w' : World} {cb : Nat} {p : Pu} (h : PA A w cb p) (hk : Kp A' w w') (ho : ∀ k, k < w.heap.size → ¬ A k → A' k) (ht : ∀ k, TY w k → A' k) : PA A w' cb p := by
  obtain ⟨s, h1, h2, h3, h4, h5⟩ := h
  exact ⟨s, h1.fr2 hk (fun k hk' hn => hn (ho k (h1.lt hk') (fun ha => h5 k ha hk'))) (fun d v hv hn => hn (ht d ⟨_, _, _, hv, .inr (.inr rfl)⟩)), h2, h3, h4, h5⟩
/-- Both stand as p says. -/
structure Two (B : Nat) (w : World) (cb xb : Nat) (p : Pu) : Prop where
  c : PB B w cb p
  x : XR w xb p
  ge : B ≤ xb
theorem Two.nx {B : Nat} {w w' : World} {cb xb : Nat} {p : Pu} (h : Two B w cb xb p) (hb : Below w.heap.size w w') : Two B w' cb xb p := ⟨h.c.next hb, h.x.next hb, h.ge⟩
/-- The cache's own step. -/
theorem Two.ck {B : Nat} {w : World} {cb xb : Nat} {p : Pu} (h : Two B w cb xb p) : PA (fun k => k < B ∨ TY w k) w cb p := PA.ty h.c
theorem Two.ckB {B : Nat} {w w' : World} (hk : Kp (fun k => k < B ∨ TY w k) w w') (hB : B ≤ w.heap.size) : Below B w w' := Fr.below hk hB fun k hn => by
  rcases Nat.lt_or_ge k B with h | h
  · exact absurd (.inl h) hn
  · exact h
theorem Two.ckx {B : Nat} {w w' : World} {xb : Nat} {p : Pu} (h : XR w xb p) (hk : Kp (fun k => k < B ∨ TY w k) w w') : XR w' xb p := h.kp hk fun _ ht hn => hn (.inr ht)
theorem xb_below {B : Nat} {w w' : World} {xb : Nat} (h : Fr (fun k => k = xb) w w') (hB : B ≤ w.heap.size) (hx : B ≤ xb) : Below B w w' := Fr.below h hB fun _ e => by omega
def AI (B : Nat) (w w' : World) (k : Nat) : Prop := Mid B w w' k ∨ TY w' k
theorem AI.lt {B : Nat} {w w' : World} (hB : B ≤ w'.heap.size) {k : Nat} (h : AI B w w' k) : k < w'.heap.size := by
  rcases h with (h | h) | h
  · omega
  · exact h.2
  · exact h.lt
theorem drop_pg {A : Nat → Prop} (w : World) (cb : Nat) (p : Pu) (h : PA A w cb p) (hA : ∀ k, A k → k < w.heap.size) (key : Int) :
    Calls Try.prog 16 #[.pointer (some ⟨cb, 0, none⟩), .int .i64 key] w fun e w' => e = .returned (.int .i64 (dropV p key)) ∧ PA A w' cb (rmP p key) ∧ Kp A w w' := by
  by_cases hk : whereP p key = none
  · have hr : rmP p key = p := by
      unfold whereP at hk
      cases ha : hasK p.a key with
      | true => rw [if_pos ha] at hk; cases hk
      | false =>
        cases hb : hasK p.b key with
        | true => rw [if_neg (by simp [ha]), if_pos hb] at hk; cases hk
        | false =>
          cases hc : hasK p.c key with
          | true => rw [if_neg (by simp [ha]), if_neg (by simp [hb]), if_pos hc] at hk; cases hk
          | false =>
            cases hd : hasK p.d key with
            | true => rw [if_neg (by simp [ha]), if_neg (by simp [hb]), if_neg (by simp [hc]), if_pos hd] at hk; cases hk
            | false =>
              unfold rmP
              rw [rm_not (fun h => by have := (hasK_iff _ _).2 h; rw [ha] at this; cases this), rm_not (fun h => by have := (hasK_iff _ _).2 h; rw [hb] at this; cases this), rm_not (fun h => by have := (hasK_iff _ _).2 h; rw [hc] at this; cases this), rm_not (fun h => by have := (hasK_iff _ _).2 h; rw [hd] at this; cases this)]
    refine (drop_pa_none w cb p h key hk).mono ?_
    rintro e w' ⟨rfl, rfl⟩
    exact ⟨by unfold dropV; rw [if_pos hk], by rw [hr]; exact h, Kp.refl _ _⟩
  · refine (drop_pa_some w cb p h hA key hk).mono ?_
    rintro e w' ⟨rfl, h1, h2⟩
    exact ⟨by unfold dropV; rw [if_neg hk], h1, h2⟩
/-- Behind j steps. -/
def YInv (B : Nat) (w : World) (N : Int) (n : Nat) (c x i : Value) (wr : World) : Prop :=
  ∃ (j cb xb : Nat) (p : Pu), j ≤ n ∧ i = .int .i64 j ∧ c = .pointer (some ⟨cb, 0, none⟩) ∧ x = .pointer (some ⟨xb, 0, none⟩) ∧ Two B wr cb xb p ∧ p.room = N ∧ Below B w wr
/-- Behind a step. -/
def YCut (B : Nat) (w : World) (N : Int) (c x ok : Value) (wr : World) : Prop :=
  ∃ (cb xb : Nat) (p : Pu), c = .pointer (some ⟨cb, 0, none⟩) ∧ x = .pointer (some ⟨xb, 0, none⟩) ∧ ok = .bool true ∧ Two B wr cb xb p ∧ p.room = N ∧ Below B w wr
set_option maxHeartbeats 16000000 in
set_option maxRecDepth 100000 in
theorem plays_law (w : World) (room : Int) (a : Option Addr) (n cap : Nat) (l : List St) (hs : StepsAt w a n l) (hm : n ≤ maxLen) :
    Calls Try.prog 8 #[.int .i64 room, .slice a n cap] w fun e w' => e = .returned (.bool true) ∧ Below w.heap.size w w' := by
  unfold maxLen at hm
  have HS := Lib.hid hs
  clear hs
  go_enter Try.func8, Try.ntmps8
  by_cases hlen : 300 < n
  · go_wp2_with fail
    refine bodyPost_ret (by simp [results, Try.results8, go_sem]; rfl) rfl ?_
    exact ⟨rfl, Below.refl _ _⟩
  by_cases hr : room < 1 ∨ 1024 < room
  · go_wp2_with fail
    refine (new_not w room hr).mono ?_
    rintro e _ ⟨rfl, rfl⟩
    go_wp2_with fail
    refine (xnew_not w room hr).mono ?_
    rintro e _ ⟨rfl, rfl⟩
    go_wp2_with fail
    refine bodyPost_ret (by simp [results, Try.results8, go_sem]; rfl) rfl ?_
    exact ⟨rfl, Below.refl _ _⟩
  have r1 : 1 ≤ room := by omega
  have r2 : room ≤ 1024 := by omega
  go_wp2_with fail
  refine (new_pa w room r1 r2).mono ?_
  rintro e w1 ⟨cb, rfl, hp, hb1⟩
  have HP1 := Lib.hid hp
  have HB1 := Lib.hid hb1
  clear hp hb1
  go_wp2_with fail
  refine (xnew_any w1 room r1 r2).mono ?_
  rintro e w2 ⟨xb, rfl, hx, hge, hb2⟩
  have HT2 : Hid (Two w.heap.size w2 cb xb (newPu room)) := Lib.hid ⟨HP1.out.next hb2, hx, Nat.le_trans HB1.out.size hge⟩
  have HB2 : Hid (Below w.heap.size w w2) := Lib.hid (bt HB1.out hb2)
  clear hx hge hb2 HP1 HB1 hr
  go_wp2_with fail
  go_loopw [5, 7, 9] (fun c x i wr => YInv w.heap.size w room n c x i wr) (fun _ _ i _ => n - (intOf i).toNat)
  case atStart => exact ⟨0, cb, xb, _, by omega, rfl, rfl, rfl, HT2.out, rfl, HB2.out⟩
  case round =>
    clear HT2 HB2
    obtain ⟨j, cb, xb, p, hj, rfl, rfl, rfl, hT, hroom, hB⟩ := hrel
    have HT := Lib.hid hT
    have HRM := Lib.hid hroom
    have HB := Lib.hid hB
    clear hT hroom hB
    by_cases hlt : j < n
    · obtain ⟨b1, o1, rfl, l1, hcs⟩ := HS.out.get j hlt
      obtain ⟨x, hx⟩ : ∃ x, l[j]? = some x := ⟨l[j]'(by have := HS.out.1; omega), List.getElem?_eq_getElem _⟩
      obtain ⟨q1, q2, q3⟩ := hcs j x hx
      obtain ⟨hk1, hc1, hy1, hy2⟩ := HS.out.2.1 x (List.mem_of_getElem? hx)
      have d1 := (HB.out.cell (p := ⟨b1, o1 + j * 3, none⟩) l1).trans q1
      have d2 := (HB.out.cell (p := ⟨b1, o1 + j * 3 + 1, none⟩) l1).trans q2
      have d3 := (HB.out.cell (p := ⟨b1, o1 + j * 3 + 2, none⟩) l1).trans q3
      have HCS := Lib.hid hcs
      clear q1 q2 q3 hx hcs
      obtain ⟨kd, hkd⟩ : ∃ kd : Int, kd = x.kind := ⟨_, rfl⟩
      rw [← hkd] at d1
      have kd0 : 0 ≤ kd := by omega
      have kd1 : kd < 256 := by omega
      clear hkd
      obtain ⟨K, hK⟩ : ∃ K : Int, K = x.key := ⟨_, rfl⟩
      rw [← hK] at d2
      clear hK
      obtain ⟨C, hC⟩ : ∃ C : Int, C = x.c := ⟨_, rfl⟩
      rw [← hC] at d3
      clear hC
      obtain ⟨Z, hZ⟩ : ∃ Z, Z = blk 0 := ⟨_, rfl⟩
      have z30 : ∀ w, (zeroValue 30).run Try.prog w = .ok (.agg Z.toArray) w := fun w => by rw [hZ]; exact zero30 w
      obtain ⟨Y, hY⟩ : ∃ Y, Y = blk C := ⟨_, rfl⟩
      have HZ := Lib.hid hZ
      have HY := Lib.hid hY
      have H1Z : Hid (OneC Z) := Lib.hid (by rw [hZ]; exact blk_one 0)
      have H1Y : Hid (OneC Y) := Lib.hid (by rw [hY]; exact blk_one C)
      have HB30 : Hid (Try.prog.built 30 [(0, .int .u8 C)] = some Y.toArray) := Lib.hid (by rw [hY]; exact built30c C)
      have HIY : Hid ((Try.prog.info? 30).map (·.size) = some Y.toArray.size) := Lib.hid (by rw [info30]; simp [H1Y.out.1])
      have HIO : Hid (Z.toArray.size = Y.toArray.size) := Lib.hid (by simp [H1Y.out.1, H1Z.out.1])
      have hd11 : RowAt (wr.alloc (.cells Z.toArray 30)) wr.heap.size 30 Z := RowAt.new wr 30 Z
      have HD11 := Lib.hid hd11
      have HD := Lib.hid (hd11.setRow (l' := Y))
      have HBn : Hid (Below wr.heap.size wr ((wr.alloc (.cells Z.toArray 30)).setRow wr.heap.size Y.toArray)) := Lib.hid ((bA (Below.refl _ _) _).trans (below_setRow (Nat.le_refl _)))
      have d1' := (HBn.out.cell (p := ⟨b1, o1 + j * 3, none⟩) (Nat.lt_of_lt_of_le l1 HB.out.size)).trans d1
      clear hZ hY hd11
      go_upto_block 2 with (first | (refine wpList_store_row rfl 30 (.tmp 11) (.tmp 54) rfl wr.heap.size Y.toArray rfl rfl 30 Z.toArray HD11.out HIY.out HIO.out H1Y.out.2 ?_) | (refine wpList_buildR (t := 30) (parts := #[(0, .tmp 53)]) (v := Y) rfl rfl [(0, .int .u8 C)] ?hl ?hbb ?_; (case hbb => with_reducible exact HB30.out); (case hl => simp only [List.map_toArray, List.map_cons, List.map_nil]; rfl)))
      go_cut [5, 7, 10] from 43 to 169 (fun c x ok wx => YCut w.heap.size w room c x ok wx)
      case first =>
        have HTW := Lib.hid (HT.out.nx HBn.out)
        have HBW : Hid (Below w.heap.size w ((wr.alloc (.cells Z.toArray 30)).setRow wr.heap.size Y.toArray)) := Lib.hid (HB.out.trans (HBn.out.mono HB.out.size))
        have hbw : b1 < w.heap.size := l1
        have HWS : Hid (w.heap.size ≤ wr.heap.size) := Lib.hid HB.out.size
        have d2' := (HBn.out.cell (p := ⟨b1, o1 + j * 3 + 1, none⟩) (Nat.lt_of_lt_of_le l1 HB.out.size)).trans d2
        clear d1 d2 d3 HT HB HBn HD11 HIY HIO HB30 HWS
        generalize World.setRow _ _ _ = W at *
        by_cases h0 : kd = 0
        · have g0 : (kd == 0) = true := by simpa using h0
          clear h0
          as_aux_lemma =>
            go_wp2_with fail
            refine wp_region_parts (by kernel_rfl) (by kernel_rfl) ?_
            have hb0 : Below W.heap.size W W.drew := (Below.refl _ _).drew
            have hbl : b1 < W.heap.size := Nat.lt_of_lt_of_le hbw HBW.out.size
            have HTa := Lib.hid (HTW.out.nx hb0)
            have HBa := Lib.hid (HBW.out.trans (hb0.mono HBW.out.size))
            have HDa := Lib.hid (HD.out.next hb0)
            have da := (hb0.cell (p := ⟨b1, o1 + j * 3 + 1, none⟩) hbl).trans d2'
            clear hb0 HTW HBW HD d1' d2' hbl
            generalize W.drew = W0 at *
            apply regL_lq W0.heap.size
            intro D hD hne
            have p2 := fun z : Bd W0.heap.size W0 D => (z.ok.cell (p := ⟨b1, o1 + j * 3 + 1, none⟩) (Nat.lt_of_lt_of_le hbw HBa.out.size)).trans da
            iterate 6 (apply wpLQ_pin rfl rfl; intro K hK; go_big_quiet_op; go_big_quiet_on; apply And.intro rfl)
            apply wpLQ_at (.agg Y.toArray) (Nat.le_refl _) hD rfl
            · intro z _
              exact runs_loadH (x := .tmp 11) rfl rfl (load30 (HDa.out.next z.ok) H1Y.out.1) ⟨rfl, Below.refl _ _⟩
            simp only [Act.put, List.setIfInBounds_toArray, List.set_cons_succ, List.set_cons_zero]
            apply wpLQ_end (bar_of (by kernel_rfl))
            intro W1 hb1 _
            have HT1 := Lib.hid (HTa.out.nx hb1)
            have HB1 := Lib.hid (HBa.out.trans (hb1.mono HBa.out.size))
            have HD1 := Lib.hid (HDa.out.next hb1)
            have d3 := (hb1.cell (p := ⟨b1, o1 + j * 3 + 1, none⟩) (Nat.lt_of_lt_of_le hbw HBa.out.size)).trans da
            clear p2 hne hD hb1 HTa HBa HDa da
            apply regL_one (bar_of (by kernel_rfl)) rfl
            unfold Oper.wp
            go_simp
            have hput := put_pa W1 cb p HT1.out.ck (fun k hk => hk.elim (fun h => Nat.lt_of_lt_of_le h HB1.out.size) TY.lt) K C
            rw [← HY.out] at hput
            refine hput.mono ?_
            rintro e W2 ⟨rfl, hp2, hk2⟩
            have HP2 : Hid (PB w.heap.size W2 cb (putP p K C)) := Lib.hid (hp2.mono fun k hk => .inl hk)
            have HX2 : Hid (XR W2 xb p) := Lib.hid (Two.ckx HT1.out.x hk2)
            have hb2 : Below w.heap.size W1 W2 := Two.ckB hk2 HB1.out.size
            have HB2 := Lib.hid (HB1.out.trans hb2)
            have HD2 := Lib.hid (HD1.out.fr hk2 (fun hn => hn (.inr ⟨_, _, _, HD1.out, .inr (.inr rfl)⟩)))
            have HGE := Lib.hid HT1.out.ge
            have HWN : Hid (WF p ∧ NK p) := Lib.hid ⟨HT1.out.c.wf, HT1.out.c.nk⟩
            have d4 := (hb2.cell (p := ⟨b1, o1 + j * 3 + 1, none⟩) hbw).trans d3
            clear hput hp2 hk2 hb2 HT1 HB1 HD1 d3
            dsimp only
            apply regL_lq W2.heap.size
            intro D hD hne
            repeat (apply wpLQ_pin rfl rfl; intro K hK; go_big_quiet_op; go_big_quiet_on; apply And.intro rfl)
            apply wpLQ_nil (by simp)
            intro W3 hb3 _
            have HX := Lib.hid (HX2.out.next hb3)
            have HP := Lib.hid (HP2.out.next hb3)
            have HBW := Lib.hid (HB2.out.trans (hb3.mono HB2.out.size))
            have HD := Lib.hid (HD2.out.next hb3)
            have d2' := (hb3.cell (p := ⟨b1, o1 + j * 3 + 1, none⟩) (Nat.lt_of_lt_of_le hbw HB2.out.size)).trans d4
            clear hb3 hne hD HX2 HP2 HB2 HD2 d4
            go_wp2_with fail
            refine wp_region_parts (by kernel_rfl) (by kernel_rfl) ?_
            have hb0 : Below W3.heap.size W3 W3.drew := (Below.refl _ _).drew
            have hbl : b1 < W3.heap.size := Nat.lt_of_lt_of_le hbw HBW.out.size
            have HPa := Lib.hid (HP.out.next hb0)
            have HXa := Lib.hid (HX.out.next hb0)
            have HBa := Lib.hid (HBW.out.trans (hb0.mono HBW.out.size))
            have HDa := Lib.hid (HD.out.next hb0)
            have da := (hb0.cell (p := ⟨b1, o1 + j * 3 + 1, none⟩) hbl).trans d2'
            clear hb0 HP HX HBW HD d2' hbl
            generalize W3.drew = W0 at *
            apply regL_lq W0.heap.size
            intro D hD hne
            have p2 := fun z : Bd W0.heap.size W0 D => (z.ok.cell (p := ⟨b1, o1 + j * 3 + 1, none⟩) (Nat.lt_of_lt_of_le hbw HBa.out.size)).trans da
            iterate 6 (apply wpLQ_pin rfl rfl; intro K hK; go_big_quiet_op; go_big_quiet_on; apply And.intro rfl)
            apply wpLQ_at (.agg Y.toArray) (Nat.le_refl _) hD rfl
            · intro z _
              exact runs_loadH (x := .tmp 11) rfl rfl (load30 (HDa.out.next z.ok) H1Y.out.1) ⟨rfl, Below.refl _ _⟩
            simp only [Act.put, List.setIfInBounds_toArray, List.set_cons_succ, List.set_cons_zero]
            apply wpLQ_end (bar_of (by kernel_rfl))
            intro W4 hb4 _
            have HP4 := Lib.hid (HPa.out.next hb4)
            have HX4 := Lib.hid (HXa.out.next hb4)
            have HB4 := Lib.hid (HBa.out.trans (hb4.mono HBa.out.size))
            clear p2 hne hD hb4 HPa HXa HBa HDa da
            apply regL_one (bar_of (by kernel_rfl)) rfl
            unfold Oper.wp
            go_simp
            have hput := xput_any W4 xb p HX4.out HWN.out.1 HWN.out.2 K C
            rw [← HY.out] at hput
            refine hput.mono ?_
            rintro e W5 ⟨rfl, hx5, hf5⟩
            have HX5 := Lib.hid hx5
            have HP5 := Lib.hid (HP4.out.xr hf5 HX4.out.row)
            have HB5 := Lib.hid (HB4.out.trans (xb_below hf5 HB4.out.size HGE.out))
            clear hput hx5 hf5
            dsimp only
            first
              | apply regL_nil
              | (apply regL_lq W5.heap.size
                 intro D hD hne
                 apply wpLQ_nil (by simp)
                 intro W6 hb6 _)
            go_wp2_with fail
            go_meet
            exact ⟨cb, xb, putP p K C, rfl, rfl, rfl, ⟨HP5.out, HX5.out, HGE.out⟩, (putP_room _ _ _).trans HRM.out, HB5.out⟩
        have g0 : (kd == 0) = false := by simpa using h0
        clear h0
        by_cases h1 : kd = 1
        · have g1 : (kd == 1) = true := by simpa using h1
          clear h1
          as_aux_lemma =>
            have HWN : Hid (WF p ∧ NK p) := Lib.hid ⟨HTW.out.c.wf, HTW.out.c.nk⟩
            go_wp2_with fail
            obtain ⟨G, hG⟩ : ∃ G : List Value, ∃ y g : Int, G = blk g ∧ getV p K = .tuple #[.agg G.toArray, .int .i64 y] := by
              unfold getV
              cases hl : lookP p K with
              | none => exact ⟨blk 0, 5, 0, rfl, rfl⟩
              | some c => exact ⟨blk c, 0, c, rfl, rfl⟩
            obtain ⟨y, g, hG1, hG2⟩ := hG
            have H1G : Hid (OneC G) := Lib.hid (by rw [hG1]; exact blk_one g)
            have HEQ : Hid (∀ w, (Op.equalIn 10000 30 (.agg G.toArray) (.agg G.toArray)).run Try.prog w = .ok true w) := Lib.hid (by intro w; rw [hG1, eq30]; simp)
            have HIG : Hid ((Try.prog.info? 30).map (·.size) = some G.toArray.size) := Lib.hid (by rw [info30]; simp [H1G.out.1])
            have HOG : Hid (Z.toArray.size = G.toArray.size) := Lib.hid (by simp [H1G.out.1, H1Z.out.1])
            have hget := get_pg W cb p HTW.out.ck (fun k hk => hk.elim (fun h => Nat.lt_of_lt_of_le h HBW.out.size) TY.lt) K
            rw [hG2] at hget
            refine hget.mono ?_
            rintro e W2 ⟨rfl, hp2, hk2⟩
            have HG2 := Lib.hid hG2
            have HP2 : Hid (PB w.heap.size W2 cb (getP p K)) := Lib.hid (hp2.mono fun k hk => .inl hk)
            have HX2 : Hid (XR W2 xb p) := Lib.hid (Two.ckx HTW.out.x hk2)
            have hb2 : Below w.heap.size W W2 := Two.ckB hk2 HBW.out.size
            have HB2 := Lib.hid (HBW.out.trans hb2)
            have HGE := Lib.hid HTW.out.ge
            have d3 := (hb2.cell (p := ⟨b1, o1 + j * 3 + 1, none⟩) hbw).trans d2'
            have hz : RowAt (W2.alloc (.cells Z.toArray 30)) W2.heap.size 30 Z := RowAt.new W2 30 Z
            have HZ2 := Lib.hid hz
            have hb3 : Below W2.heap.size W2 ((W2.alloc (.cells Z.toArray 30)).setRow W2.heap.size G.toArray) := (bA (Below.refl _ _) _).trans (below_setRow (Nat.le_refl _))
            have HP3 := Lib.hid (HP2.out.next hb3)
            have HX3 := Lib.hid (HX2.out.next hb3)
            have HB3 := Lib.hid (HB2.out.trans (hb3.mono HB2.out.size))
            have HG3 := Lib.hid (hz.setRow (l' := G))
            have d4 := (hb3.cell (p := ⟨b1, o1 + j * 3 + 1, none⟩) (Nat.lt_of_lt_of_le hbw HB2.out.size)).trans d3
            have hn2 : ¬ W2.heap.size = xb := by have := HX2.out.row; obtain ⟨_, h⟩ := this; have := h.lt; omega
            have HN2 := Lib.hid hn2
            clear hget hp2 hk2 hb2 HTW HBW HD d1' d2' HP2 HX2 HB2 d3 hz hb3 hG1 hG2 hn2
            go_upto_region 27 with (refine wpList_store_row rfl 30 (.tmp 12) (.tmp 118) rfl W2.heap.size G.toArray rfl rfl 30 Z.toArray HZ2.out HIG.out HOG.out H1G.out.2 ?_)
            clear HZ2
            generalize W2.heap.size = g2 at *
            generalize World.setRow _ _ _ = W3 at *
            go_wp2_with fail
            have hget := xget_any W3 xb p HX3.out HWN.out.1 HWN.out.2 K
            rw [HG2.out] at hget
            refine hget.mono ?_
            rintro e W4 ⟨rfl, hx4, hf4⟩
            have HX4 := Lib.hid hx4
            have HP4 := Lib.hid (HP3.out.xr hf4 HX3.out.row)
            have HB4 := Lib.hid (HB3.out.trans (xb_below hf4 HB3.out.size HGE.out))
            have hg4 := HG3.out.fr hf4 HN2.out
            have HG4 := Lib.hid hg4
            have hz : RowAt (W4.alloc (.cells Z.toArray 30)) W4.heap.size 30 Z := RowAt.new W4 30 Z
            have HZ4 := Lib.hid hz
            have hb5 : Below W4.heap.size W4 ((W4.alloc (.cells Z.toArray 30)).setRow W4.heap.size G.toArray) := (bA (Below.refl _ _) _).trans (below_setRow (Nat.le_refl _))
            have HT5 : Hid (Two w.heap.size ((W4.alloc (.cells Z.toArray 30)).setRow W4.heap.size G.toArray) cb xb (getP p K)) := Lib.hid ⟨HP4.out.next hb5, HX4.out.next hb5, HGE.out⟩
            have HB5 := Lib.hid (HB4.out.trans (hb5.mono HB4.out.size))
            have HG5 := Lib.hid (hg4.next hb5)
            have HG6 := Lib.hid (hz.setRow (l' := G))
            clear hget hx4 hf4 hg4 hz hb5 HX4 HP4 HB4 HG4 HX3 HP3 HB3 HG3 d4
            go_wp2_with (first | (refine wpList_store_row rfl 30 (.tmp 14) (.tmp 128) rfl W4.heap.size G.toArray rfl rfl 30 Z.toArray HZ4.out HIG.out HOG.out H1G.out.2 ?_) | (refine wpList_loadR (x := .tmp 12) rfl rfl rfl (load30 HG5.out H1G.out.1) ?_) | (refine wpList_loadR (x := .tmp 14) rfl rfl rfl (load30 HG6.out H1G.out.1) ?_) | (refine wpList_eqlR (x := .tmp 130) (y := .tmp 131) rfl rfl rfl rfl (guard30 _ _ _ _ _ _) (eql30 (HEQ.out _)) ?_))
            go_meet
            exact ⟨cb, xb, getP p K, rfl, rfl, rfl, HT5.out, (getP_room _ _).trans HRM.out, HB5.out⟩
        have g1 : (kd == 1) = false := by simpa using h1
        clear h1
        by_cases h2 : kd = 2
        · have g2 : (kd == 2) = true := by simpa using h2
          clear h2
          as_aux_lemma =>
            have HWN : Hid (WF p ∧ NK p) := Lib.hid ⟨HTW.out.c.wf, HTW.out.c.nk⟩
            go_wp2_with fail
            have HTd := Lib.hid (HTW.out.nx ((Below.refl _ _).drew))
            have HBd : Hid (Below w.heap.size w W.drew) := Lib.hid HBW.out.drew
            have dd : W.drew.cell? ⟨b1, o1 + j * 3 + 1, none⟩ = some (.int .i64 K) := d2'
            have HDD := Lib.hid dd
            go_region_held3 (fun w' => w'.cell? ⟨b1, o1 + j * 3 + 1, none⟩ = some (.int .i64 K))
              ((first
                | go_keep
                | exact ((xb_below hf3 (Nat.le_trans HBd.out.size (Two.ckB hk2 HBd.out.size).size) HTd.out.ge).cell (p := ⟨b1, o1 + j * 3 + 1, none⟩) hbw).trans (((Two.ckB hk2 HBd.out.size).cell (p := ⟨b1, o1 + j * 3 + 1, none⟩) hbw).trans HDD.out)
                | exact ((Two.ckB hk2 HBd.out.size).cell (p := ⟨b1, o1 + j * 3 + 1, none⟩) hbw).trans HDD.out))
              ((first
                | (go_at_call 16; refine (drop_pg _ cb p HTd.out.ck (fun k hk => hk.elim (fun h => Nat.lt_of_lt_of_le h HBd.out.size) TY.lt) K).mono ?_; rintro e w2 ⟨rfl, hp2, hk2⟩)
                | (go_at_call 27; refine (xdrop_any _ xb p (Two.ckx HTd.out.x hk2) HWN.out.1 HWN.out.2 K).mono ?_; rintro e w3 ⟨rfl, hx3, hf3⟩)))
            have hB2 : Below w.heap.size W.drew w2 := Two.ckB hk2 HBd.out.size
            have HT3 : Hid (Two w.heap.size w3 cb xb (rmP p K)) := Lib.hid ⟨(hp2.mono fun k hk => .inl hk).xr hf3 (Two.ckx HTd.out.x hk2).row, hx3, HTd.out.ge⟩
            have HB3 : Hid (Below w.heap.size w w3) := Lib.hid ((HBd.out.trans hB2).trans (xb_below hf3 (Nat.le_trans HBd.out.size hB2.size) HTd.out.ge))
            clear hp2 hk2 hx3 hf3 hB2 HTW HBW HD d1' d2' dd HDD HTd HBd
            go_wp2_with fail
            go_meet
            exact ⟨cb, xb, rmP p K, rfl, rfl, rfl, HT3.out, HRM.out, HB3.out⟩
        have g2 : (kd == 2) = false := by simpa using h2
        clear h2
        by_cases h3 : kd = 3
        · have g3 : (kd == 3) = true := by simpa using h3
          clear h3
          as_aux_lemma =>
            go_wp2_with fail
            refine (clear_pb W cb p HTW.out.c HBW.out.size).mono ?_
            rintro e W2 ⟨rfl, hp2, hf2⟩
            rw [HRM.out] at hp2
            have hcb : w.heap.size ≤ cb := by
              obtain ⟨s, _, _, _, _, h5⟩ := HTW.out.c
              rcases Nat.lt_or_ge cb w.heap.size with h | h
              · exact absurd (.inl rfl) (h5 cb h)
              · exact h
            have hb2 : Below w.heap.size W W2 := Fr.below hf2 HBW.out.size (fun _ e => by omega)
            have HB2 := Lib.hid (HBW.out.trans hb2)
            have HT3 : Hid (Two w.heap.size (W2.alloc (.cells #[.int .i64 room, .int .i64 0, .slice none 0 0, .slice none 0 0, .slice none 0 0, .slice none 0 0] 58)) cb W2.heap.size (newPu room)) := Lib.hid ⟨hp2.next (bA (Below.refl _ _) _), xr_new W2 room, HB2.out.size⟩
            have HB3 : Hid (Below w.heap.size w (W2.alloc (.cells #[.int .i64 room, .int .i64 0, .slice none 0 0, .slice none 0 0, .slice none 0 0, .slice none 0 0] 58))) := Lib.hid (bA HB2.out _)
            clear hp2 hf2 hb2 HTW HBW HD d1' d2' hcb
            go_wp2_with fail
            go_meet
            exact ⟨cb, _, _, rfl, rfl, rfl, HT3.out, rfl, HB3.out⟩
        have g3 : (kd == 3) = false := by simpa using h3
        clear h3
        go_wp2_with fail
        refine (copy_pa W cb p HTW.out.c).mono ?_
        rintro e W2 ⟨cb2, rfl, hp2, hb2⟩
        have HP2 := Lib.hid hp2
        have HPI : Hid (PA (AI w.heap.size W W2) W2 cb p) := Lib.hid ((PA.ty (PA.mid HTW.out.c hb2)).mono fun k hk => hk)
        have HX2 := Lib.hid (HTW.out.x.next hb2)
        have HGE := Lib.hid HTW.out.ge
        have HB2 := Lib.hid (HBW.out.trans (hb2.mono HBW.out.size))
        have HWS : Hid (w.heap.size ≤ W.heap.size) := Lib.hid HBW.out.size
        obtain ⟨Y7, hY7⟩ : ∃ Y7, Y7 = blk 77 := ⟨_, rfl⟩
        have HY7 := Lib.hid hY7
        have HB7 : Hid (Try.prog.built 30 [(0, .int .u8 77)] = some Y7.toArray) := Lib.hid (by rw [hY7]; exact built30c 77)
        clear hp2 hb2 HTW HBW HD d1' d2' hY7
        go_wp2_with fail
        go_loopw [17] (fun i wq => ∃ (k : Nat) (q : Pu), k ≤ 10 ∧ i = .int .i64 k ∧ PA (AI w.heap.size W W2) wq cb q ∧ Kp (AI w.heap.size W W2) W2 wq) (fun i _ => 10 - (intOf i).toNat)
        case atStart => exact ⟨0, p, by omega, rfl, HPI.out, Kp.refl _ _⟩
        case round =>
          obtain ⟨k, q, hk, rfl, hp, hkp⟩ := hrel
          have HP := Lib.hid hp
          have HKP := Lib.hid hkp
          have hbq : Below w.heap.size W2 _ := Fr.below hkp HB2.out.size (fun i hn => by
            rcases Nat.lt_or_ge i w.heap.size with h | h
            · exact absurd (.inl (.inl h)) hn
            · exact h)
          have HBQ := Lib.hid (HB2.out.trans hbq)
          clear hp hkp
          by_cases hkk : k < n ∧ k < 10
          · obtain ⟨k1, k2⟩ := hkk
            obtain ⟨s, hs⟩ : ∃ s, l[k]? = some s := ⟨l[k]'(by have := HS.out.1; omega), List.getElem?_eq_getElem _⟩
            obtain ⟨_, t2, _⟩ := HCS.out k s hs
            obtain ⟨_, _, sy1, sy2⟩ := HS.out.2.1 s (List.mem_of_getElem? hs)
            have s2 := (HBQ.out.cell (p := ⟨b1, o1 + k * 3 + 1, none⟩) hbw).trans t2
            obtain ⟨K2, hK2⟩ : ∃ K2 : Int, K2 = s.key := ⟨_, rfl⟩
            rw [← hK2] at s2 sy1 sy2
            clear hs t2 hK2 hbq
            have k1' : (k : Int) < (n : Int) := by omega
            have k2' : (k : Int) < 10 := by omega
            go_wp2_with (refine wpList_buildR (t := 30) (parts := #[(0, .const (.int .u8 77))]) (v := Y7) rfl rfl [(0, .int .u8 77)] ?hl ?hbb ?_; (case hbb => with_reducible exact HB7.out); (case hl => simp only [List.map_toArray, List.map_cons, List.map_nil]; rfl))
            have hput := put_pa wr cb q HP.out (fun i hi => Nat.lt_of_lt_of_le (AI.lt HB2.out.size hi) HKP.out.size) K2 77
            rw [← HY7.out] at hput
            refine hput.mono ?_
            rintro e W5 ⟨rfl, hp5, hk5⟩
            have HP5 := Lib.hid hp5
            have HK5 := Lib.hid (Fr.trans HKP.out hk5)
            have hbq5 : Below w.heap.size wr W5 := Fr.below hk5 HBQ.out.size (fun i hn => by
              rcases Nat.lt_or_ge i w.heap.size with h | h
              · exact absurd (.inl (.inl h)) hn
              · exact h)
            have s5 := (hbq5.cell (p := ⟨b1, o1 + k * 3 + 1, none⟩) hbw).trans s2
            clear s2 hput hp5 hk5 hbq5
            go_wp2_with fail
            refine (drop_pg W5 cb _ HP5.out (fun i hi => Nat.lt_of_lt_of_le (AI.lt HB2.out.size hi) HK5.out.size) _).mono ?_
            rintro e W6 ⟨rfl, hp6, hk6⟩
            have HP6 := Lib.hid hp6
            have HK6 := Lib.hid (Fr.trans HK5.out hk6)
            clear hp6 hk6
            go_wp2_with fail
            go_roundw
            case rel => exact ⟨k + 1, _, by omega, by go_num, HP6.out, HK6.out⟩
            case measure => simp [intOf]; omega
          · go_wp2_with fail
            all_goals go_meet
            all_goals exact ⟨cb2, xb, p, rfl, rfl, rfl, ⟨(HP2.out.kept HKP.out (fun i h1 h2 => .inl (.inr ⟨by omega, h1⟩)) (fun i ht => .inr ht)).mono (fun i hi => by have := HWS.out; omega), HX2.out.kp HKP.out (fun i ht hn => hn (.inr ht)), HGE.out⟩, HRM.out, HBQ.out⟩
      case rest =>
        obtain ⟨cb, xb, q, rfl, rfl, rfl, hT, hroom, hB⟩ := hcut
        have HT := Lib.hid hT
        have HRM := Lib.hid hroom
        have HB := Lib.hid hB
        clear hT hroom hB
        go_wp2_with fail
        refine (xsame_any wc cb xb q HT.out.c HT.out.x).mono ?_
        rintro e w9 ⟨rfl, hb9⟩
        have HT9 := Lib.hid (HT.out.nx hb9)
        have HB9 := Lib.hid (HB.out.trans (hb9.mono HB.out.size))
        clear hb9
        go_wp2_with fail
        go_roundw
        case rel => exact ⟨j + 1, cb, xb, q, by omega, by go_num, rfl, rfl, HT9.out, HRM.out, HB9.out⟩
        case measure => simp [intOf]; omega
    · obtain rfl : j = n := by omega
      go_wp2_with fail
      refine bodyPost_ret (by simp [results, Try.results8, go_sem]; rfl) rfl ?_
      exact ⟨rfl, HB.out⟩
end Go.Proofs.Ytefjpljjdjecjaa
