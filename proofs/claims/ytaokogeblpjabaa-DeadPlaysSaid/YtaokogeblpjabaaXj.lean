/- A step, by the program and by the document; what is told of both. -/
import Derived.Test.YtaokogeblpjabaaXi
import Derived.Deep.RegionHeld3
namespace Go.Proofs.Ytaokogeblpjabaa
open Go.RowKit
structure Tw (W : World) (t b q g : Nat) (f : Int → Nat) : Prop where
  dt : DT W t b f
  rx : RX W q g f
  tq : t ≠ q
  tg : t ≠ g
  bq : b ≠ q
  bg : b ≠ g
abbrev TB (b q g : Nat) : Nat → Prop := fun k => k = b ∨ k = q ∨ k = g
/-- What a step may do. -/
def TGo (w : World) (t b q g : Nat) (w' : World) : Prop := ∃ f' g', Tw w' t b q g' f' ∧ Fr (TB b q g) w w' ∧ (g' = g ∨ w.heap.size ≤ g')
section
variable {W W1 W2 : World} {t b q g : Nat} {f f' : Int → Nat}
theorem Tw.next (h : Tw W t b q g f) (hb : Below W.heap.size W W1) : Tw W1 t b q g f := ⟨h.dt.next hb, h.rx.next hb, h.tq, h.tg, h.bq, h.bg⟩
theorem Tw.fr {M : Nat → Prop} (h : Tw W t b q g f) (hf : Fr M W W1) (h1 : ¬ M t) (h2 : ¬ M b) (h3 : ¬ M q) (h4 : ¬ M g) : Tw W1 t b q g f := ⟨h.dt.fr hf h1 h2, h.rx.fr hf h3 h4, h.tq, h.tg, h.bq, h.bg⟩
theorem Tw.lt (h : Tw W t b q g f) : t < W.heap.size ∧ b < W.heap.size ∧ q < W.heap.size ∧ g < W.heap.size := ⟨h.dt.lt.1, h.dt.lt.2, h.rx.lt, h.rx.ltg⟩
theorem Tw.rx1 (h : Tw W t b q g f) (hf : Fr (· = b) W W1) : RX W1 q g f := h.rx.fr hf (fun e => h.bq e.symm) (fun e => h.bg e.symm)
theorem Tw.go (h : Tw W t b q g f) (hd : DT W1 t b f') (hf : Fr (· = b) W W1) (hg : RGo W1 q g f' W2) : TGo W t b q g W2 := by
  obtain ⟨g', hx, hf2, hgn⟩ := hg
  have hl := h.lt
  have hs := hf.size
  refine ⟨f', g', ⟨hd.fr hf2 ?_ ?_, hx, h.tq, ?_, h.bq, ?_⟩, (hf.mono (fun _ _ e => .inl e)).trans (hf2.mono (fun _ _ e => .inr e)), hgn.imp id (fun e => by omega)⟩
  · rintro (e | e); exact h.tq e; exact h.tg e
  · rintro (e | e); exact h.bq e; exact h.bg e
  · rcases hgn with e | e
    · rw [e]; exact h.tg
    · omega
  · rcases hgn with e | e
    · rw [e]; exact h.bg
    · omega
theorem TGo.same (h : Tw W t b q g f) (hb : Below W.heap.size W W1) : TGo W t b q g W1 := ⟨f, g, h.next hb, Fr.of_below hb, .inl rfl⟩
theorem TGo.before {w : World} (hb : Below w.heap.size w W) (h : TGo W t b q g W1) : TGo w t b q g W1 := by
  obtain ⟨f', g', h1, h2, h3⟩ := h
  exact ⟨f', g', h1, (Fr.of_below hb).trans h2, h3.imp id (fun e => Nat.le_trans hb.size e)⟩
theorem TGo.after {w : World} (h : TGo w t b q g W) (hb : Below W.heap.size W W1) : TGo w t b q g W1 := by
  obtain ⟨f', g', h1, h2, h3⟩ := h
  exact ⟨f', g', h1.next hb, h2.trans (Fr.of_below hb), h3⟩
end
def SpJ (w : World) (B : Nat) (v : Value) (n : Nat) (i : Value) (W : World) : Prop := ∃ k l, k ≤ n ∧ i = .int .i64 (k : Nat) ∧ l.length = n ∧ OwnI B l v W ∧ Fr (fun j => v.ownBlock = some j) w W
theorem spoil2_any (w : World) (B : Nat) (v : Value) (l : List Int) (h : OwnI B l v w) (hl : l.length ≤ 100000) :
    Calls Try.prog 35 #[v] w fun e w' => e = .returned (.tuple #[]) ∧ Fr (fun j => v.ownBlock = some j) w w' := by
  obtain ⟨A, cap, rfl⟩ := h.shape
  have HO := Lib.hid h
  clear h
  generalize hn : l.length = n at *
  have HN := Lib.hid hn
  clear hn
  go_enter Try.func35, Try.ntmps35
  go_wp2_with fail
  go_loopw [2] (fun i wr => SpJ w B (.slice A n cap) n i wr) (fun i _ => n - (intOf i).toNat)
  case atStart => exact ⟨0, l, by omega, rfl, HN.out, HO.out, Fr.refl _ _⟩
  case round =>
    obtain ⟨k, l1, hk, rfl, hl1, ho, hf⟩ := hrel
    clear HO HN
    have HN := Lib.hid hl1
    have HO := Lib.hid ho
    have HF := Lib.hid hf
    clear hl1 ho hf
    by_cases hlt : k < n
    · have hlt' : (k : Int) < (n : Int) := by omega
      have k0 : (0 : Int) ≤ (k : Int) := by omega
      obtain ⟨x, hx⟩ : ∃ x, l1[k]? = some x := ⟨l1[k]'(by rw [HN.out]; omega), List.getElem?_eq_getElem _⟩
      obtain ⟨g, rfl, hg, hgl, hcell, hfz⟩ := HO.out.at k x hx
      have HO2 := Lib.hid (HO.out.set k (-7)).1
      have HF2 : Hid (Fr (fun j => (Value.slice (some ⟨g, 0, none⟩) n cap).ownBlock = some j) w (wr.setCell ⟨g, k, none⟩ (.int .i64 (-7)))) := Lib.hid (HF.out.setCell (b := g) rfl _)
      clear hx hg hgl
      go_wp2_with fail
      go_roundw
      case rel => exact ⟨k + 1, _, by omega, by go_num, by rw [List.length_set]; exact HN.out, HO2.out, HF2.out⟩
      case measure => simp [intOf]; omega
    · obtain rfl : k = n := by omega
      go_wp2_with fail
      go_end0
      exact ⟨rfl, HF.out⟩
set_option maxHeartbeats 4000000 in
theorem do_any (w : World) (t b q g : Nat) (f : Int → Nat) (h : Tw w t b q g f) (kd : Nat) (z y : Int) :
    Calls Try.prog 18 #[.agg #[.int .u8 kd, .int .i64 z, .int .i64 y], .pointer (some ⟨t, 0, none⟩), .pointer (some ⟨q, 0, none⟩)] w fun e w' => e = .returned (.bool true) ∧ TGo w t b q g w' := by
  have hal : Below w.heap.size w (w.alloc (.cells #[.int .u8 kd, .int .i64 z, .int .i64 y] 29)) := (Below.refl _ _).alloc (Nat.le_refl _) _
  have HW := Lib.hid (h.next hal)
  have HB := Lib.hid hal
  have HR := Lib.hid (RowAt.new w 29 [.int .u8 kd, .int .i64 z, .int .i64 y])
  have d0 : (w.alloc (.cells #[.int .u8 kd, .int .i64 z, .int .i64 y] 29)).cell? ⟨w.heap.size, 0, none⟩ = some (.int .u8 kd) := HR.out.cell 0
  have d1 : (w.alloc (.cells #[.int .u8 kd, .int .i64 z, .int .i64 y] 29)).cell? ⟨w.heap.size, 1, none⟩ = some (.int .i64 z) := HR.out.cell 1
  have d2 : (w.alloc (.cells #[.int .u8 kd, .int .i64 z, .int .i64 y] 29)).cell? ⟨w.heap.size, 2, none⟩ = some (.int .i64 y) := HR.out.cell 2
  have HL := Lib.hid h.lt
  clear h hal
  by_cases e0 : kd = 0
  · have e0' : ((kd : Int) == 0) = true := by simp; omega
    clear e0
    go_enter Try.func18, Try.ntmps18
    go_wp2_with fail
    generalize w.alloc (.cells #[.int .u8 kd, .int .i64 z, .int .i64 y] 29) = w1 at *
    obtain ⟨x, hx⟩ : ∃ x, x = w.heap.size := ⟨_, rfl⟩
    rw [← hx] at HR d0 d1 d2 ⊢
    rw [← hx] at HL
    clear hx
    clear d0
    have HWd := Lib.hid (HW.out.next ((Below.refl _ _).drew))
    have HRd := Lib.hid (HR.out.next ((Below.refl _ _).drew))
    go_region_held3 (fun w' => w'.cell? ⟨x, 1, none⟩ = some (.int .i64 z) ∧ w'.cell? ⟨x, 2, none⟩ = some (.int .i64 y))
      ((first
        | go_keep
        | exact ⟨(HRd.out.fr hf (fun e => by have := HL.out; omega)).cell 1, (HRd.out.fr hf (fun e => by have := HL.out; omega)).cell 2⟩
        | exact ⟨((HRd.out.fr hf (fun e => by have := HL.out; omega)).fr hg.choose_spec.2.1 (fun e => by have := HL.out; rcases e with e | e <;> omega)).cell 1, ((HRd.out.fr hf (fun e => by have := HL.out; omega)).fr hg.choose_spec.2.1 (fun e => by have := HL.out; rcases e with e | e <;> omega)).cell 2⟩))
      ((first
        | (go_at_call 9; refine (need_any _ t b f HWd.out.dt z y).mono ?_; rintro e w2 ⟨rfl, hd, hf⟩)
        | (go_at_call 31; refine (rneed_any _ q g f (HWd.out.rx1 hf) z y).mono ?_; rintro e w3 ⟨rfl, hg⟩)))
    have HP : Hid (TGo w t b q g w3) := Lib.hid (TGo.before (HB.out.drew) (HWd.out.go hd hf hg))
    clear hd hf hg d1 d2
    go_wp2_with fail
    all_goals refine bodyPost_ret (by simp [results, Try.results18, go_sem]; rfl) rfl ?_
    all_goals exact ⟨rfl, HP.out⟩
  · have e0' : ((kd : Int) == 0) = false := by simp; omega
    by_cases e1 : kd = 1
    · have e1' : ((kd : Int) == 1) = true := by simp; omega
      clear e0 e1
      go_enter Try.func18, Try.ntmps18
      go_wp2_with fail
      generalize w.alloc (.cells #[.int .u8 kd, .int .i64 z, .int .i64 y] 29) = w1 at *
      obtain ⟨x, hx⟩ : ∃ x, x = w.heap.size := ⟨_, rfl⟩
      rw [← hx] at HR d0 d1 d2 ⊢
      rw [← hx] at HL
      clear hx
      refine (give_any w1 t b f HW.out.dt z y).mono ?_
      rintro e w2 ⟨rfl, hd, hf⟩
      have d3 := (HR.out.fr hf (fun e => by have := HL.out; omega)).cell 1
      have d4 := (HR.out.fr hf (fun e => by have := HL.out; omega)).cell 2
      simp only [List.getElem?_cons_zero, List.getElem?_cons_succ] at d3 d4
      have HD2 := Lib.hid hd
      have HF2 := Lib.hid hf
      clear hd hf d0 d1 d2
      go_wp2_with fail
      refine (rgive_any w2 q g f (HW.out.rx1 HF2.out) z y).mono ?_
      rintro e w3 ⟨rfl, hg⟩
      have HP : Hid (TGo w t b q g w3) := Lib.hid (TGo.before HB.out (HW.out.go HD2.out HF2.out hg))
      clear hg d3 d4
      have n1 : (giveR f z y == giveR f z y) = true := by simp
      have n2 : (giveE f z y == giveE f z y) = true := by simp
      generalize giveE f z y = E at *
      generalize giveR f z y = R at *
      cases R
      all_goals go_wp2_with fail
      all_goals refine bodyPost_ret (by simp [results, Try.results18, go_sem]; rfl) rfl ?_
      all_goals exact ⟨rfl, HP.out⟩
    · have e1' : ((kd : Int) == 1) = false := by simp; omega
      by_cases e2 : kd = 2
      · have e2' : ((kd : Int) == 2) = true := by simp; omega
        clear e0 e1 e2
        go_enter Try.func18, Try.ntmps18
        go_wp2_with fail
        generalize w.alloc (.cells #[.int .u8 kd, .int .i64 z, .int .i64 y] 29) = w1 at *
        obtain ⟨x, hx⟩ : ∃ x, x = w.heap.size := ⟨_, rfl⟩
        rw [← hx] at HR d0 d1 d2 ⊢
        rw [← hx] at HL
        clear hx
        clear d0
        have HWd := Lib.hid (HW.out.next ((Below.refl _ _).drew))
        have HRd := Lib.hid (HR.out.next ((Below.refl _ _).drew))
        go_region_held3 (fun w' => w'.cell? ⟨x, 1, none⟩ = some (.int .i64 z) ∧ w'.cell? ⟨x, 2, none⟩ = some (.int .i64 y))
          ((first
            | go_keep
            | exact ⟨(HRd.out.fr hf (fun e => by have := HL.out; omega)).cell 1, (HRd.out.fr hf (fun e => by have := HL.out; omega)).cell 2⟩
            | exact ⟨((HRd.out.fr hf (fun e => by have := HL.out; omega)).fr hg.choose_spec.2.1 (fun e => by have := HL.out; rcases e with e | e <;> omega)).cell 1, ((HRd.out.fr hf (fun e => by have := HL.out; omega)).fr hg.choose_spec.2.1 (fun e => by have := HL.out; rcases e with e | e <;> omega)).cell 2⟩))
          ((first
            | (go_at_call 11; refine (like_any _ t b f HWd.out.dt z y).mono ?_; rintro e w2 ⟨rfl, hd, hf⟩)
            | (go_at_call 33; refine (rlike_any _ q g f (HWd.out.rx1 hf) z y).mono ?_; rintro e w3 ⟨rfl, hg⟩)))
        have HP : Hid (TGo w t b q g w3) := Lib.hid (TGo.before (HB.out.drew) (HWd.out.go hd hf hg))
        clear hd hf hg d1 d2
        go_wp2_with fail
        all_goals refine bodyPost_ret (by simp [results, Try.results18, go_sem]; rfl) rfl ?_
        all_goals exact ⟨rfl, HP.out⟩
      · have e2' : ((kd : Int) == 2) = false := by simp; omega
        clear e0 e1 e2
        go_enter Try.func18, Try.ntmps18
        go_wp2_with fail
        generalize w.alloc (.cells #[.int .u8 kd, .int .i64 z, .int .i64 y] 29) = w1 at *
        obtain ⟨x, hx⟩ : ∃ x, x = w.heap.size := ⟨_, rfl⟩
        rw [← hx] at HR d0 d1 d2 ⊢
        rw [← hx] at HL
        clear hx
        refine (drop_any w1 t b f HW.out.dt z).mono ?_
        rintro e w2 ⟨v1, rfl, ho1, hd, hf⟩
        have d3 := (HR.out.fr hf (fun e => by have := HL.out; omega)).cell 1
        simp only [List.getElem?_cons_zero, List.getElem?_cons_succ] at d3
        have HD2 := Lib.hid hd
        have HF2 := Lib.hid hf
        have HO1 := Lib.hid ho1
        clear hd hf ho1 d0 d1 d2
        go_wp2_with fail
        refine (rdrop_any w2 q g f (HW.out.rx1 HF2.out) z).mono ?_
        rintro e w3 ⟨v2, rfl, ho2, hg⟩
        have HO3 : Hid (OwnI w1.heap.size (dropL f z) v1 w3) := Lib.hid (by
          obtain ⟨g', _, hf3, _⟩ := hg
          exact own_fr HO1.out hf3 (fun k e => by have := HW.out.lt; rcases e with e | e <;> omega))
        have HP3 := Lib.hid (HW.out.go HD2.out HF2.out hg)
        have HO2 := Lib.hid ho2
        have HZ : Hid (∀ k, v1.ownBlock = some k → w1.heap.size ≤ k ∧ k < w2.heap.size) := Lib.hid (fun k hk => ⟨ownsRow_block HO1.out k hk, ownB_lt HO1.out k hk⟩)
        have HG3 : Hid (∃ g' f', Tw w3 t b q g' f' ∧ Fr (TB b q g) w1 w3 ∧ (g' = g ∨ w2.heap.size ≤ g')) := Lib.hid (by
          obtain ⟨g', hx, hf3, hgn⟩ := hg
          obtain ⟨f', g2, h1, h2, h3⟩ := HW.out.go HD2.out HF2.out ⟨g', hx, hf3, hgn⟩
          have hl := HW.out.lt
          have hs := HF2.out.size
          refine ⟨g', _, ⟨HD2.out.fr hf3 (fun e => by rcases e with e | e; exact HW.out.tq e; exact HW.out.tg e) (fun e => by rcases e with e | e; exact HW.out.bq e; exact HW.out.bg e), hx, HW.out.tq, ?_, HW.out.bq, ?_⟩, h2, hgn⟩
          · rcases hgn with e | e
            · rw [e]; exact HW.out.tg
            · omega
          · rcases hgn with e | e
            · rw [e]; exact HW.out.bg
            · omega)
        clear ho2 hg d3
        have hdl : (dropL f z).length ≤ 100000 := by
          unfold dropL
          split
          · have := theL_len (fun k => pGone z.toNat (f k)); omega
          · simp
        have HDL := Lib.hid hdl
        clear hdl
        go_wp2_with fail
        refine (same_any w3 (dropL f z) (dropL f z) v1 v2 HO3.out.slice HO2.out.slice HDL.out).mono ?_
        rintro e w4 ⟨rfl, hb⟩
        rw [show decide (dropL f z = dropL f z) = true from by simp]
        have HO4 := Lib.hid (HO3.out.next hb)
        have HB4 := Lib.hid hb
        clear hb
        have n2 : (dropE z == dropE z) = true := by simp
        generalize dropE z = E at *
        go_wp2_with fail
        refine (spoil2_any w4 _ v1 _ HO4.out HDL.out).mono ?_
        rintro e w5 ⟨rfl, hf5⟩
        have HP : Hid (TGo w t b q g w5) := Lib.hid (by
          obtain ⟨g', f', h1, h2, h3⟩ := HG3.out
          have hl := HW.out.lt
          have hz := HZ.out
          have hs := HF2.out.size
          refine TGo.before HB.out ⟨f', g', (h1.next HB4.out).fr hf5 (fun e => by have := hz _ e; omega) (fun e => by have := hz _ e; omega) (fun e => by have := hz _ e; omega) (fun e => by have := hz _ e; rcases h3 with h3 | h3 <;> omega), ?_, h3.imp id (fun e => by omega)⟩
          refine (h2.trans (Fr.of_below HB4.out)).step hf5 (fun j hj hm => ?_)
          have := hz _ hm
          omega)
        clear hf5
        go_wp2_with fail
        all_goals refine bodyPost_ret (by simp [results, Try.results18, go_sem]; rfl) rfl ?_
        all_goals exact ⟨rfl, HP.out⟩
set_option maxHeartbeats 4000000 in
theorem lk_any (w : World) (t b q g : Nat) (f : Int → Nat) (h : Tw w t b q g f) (kd : Nat) (z y : Int) :
    Calls Try.prog 19 #[.pointer (some ⟨t, 0, none⟩), .pointer (some ⟨q, 0, none⟩), .agg #[.int .u8 kd, .int .i64 z, .int .i64 y]] w fun e w' => e = .returned (.bool true) ∧ Below w.heap.size w w' := by
  have hal : Below w.heap.size w (w.alloc (.cells #[.int .u8 kd, .int .i64 z, .int .i64 y] 29)) := (Below.refl _ _).alloc (Nat.le_refl _) _
  have HW := Lib.hid (h.next hal)
  have HB := Lib.hid hal
  have HR := Lib.hid (RowAt.new w 29 [.int .u8 kd, .int .i64 z, .int .i64 y])
  clear h hal
  go_enter Try.func19, Try.ntmps19
  go_wp2_with fail
  generalize w.alloc (.cells #[.int .u8 kd, .int .i64 z, .int .i64 y] 29) = w1 at *
  obtain ⟨x, hx⟩ : ∃ x, x = w.heap.size := ⟨_, rfl⟩
  rw [← hx] at HR ⊢
  clear hx
  have HWd := Lib.hid (HW.out.next ((Below.refl _ _).drew))
  have HRd := Lib.hid (HR.out.next ((Below.refl _ _).drew))
  have d1 : w1.cell? ⟨x, 1, none⟩ = some (.int .i64 z) := HR.out.cell 1
  have d2 : w1.cell? ⟨x, 2, none⟩ = some (.int .i64 y) := HR.out.cell 2
  go_region_held3 (fun w' => w'.cell? ⟨x, 1, none⟩ = some (.int .i64 z) ∧ w'.cell? ⟨x, 2, none⟩ = some (.int .i64 y))
    ((first
      | go_keep
      | exact ⟨(HRd.out.next hb1).cell 1, (HRd.out.next hb1).cell 2⟩
      | exact ⟨((HRd.out.next hb1).next hb2).cell 1, ((HRd.out.next hb1).next hb2).cell 2⟩
      | exact ⟨(((HRd.out.next hb1).next hb2).next hb3).cell 1, (((HRd.out.next hb1).next hb2).next hb3).cell 2⟩))
    ((first
      | (go_at_call 12; refine (of_any _ t b f HWd.out.dt z).mono ?_; rintro e w2 ⟨va, rfl, ho1, hb1⟩)
      | (go_at_call 15; refine (who_any _ t b f (HWd.out.dt.next hb1) y).mono ?_; rintro e w3 ⟨vb, rfl, ho2, hb2⟩)
      | (go_at_call 8; refine (all_any _ t b f ((HWd.out.dt.next hb1).next hb2)).mono ?_; rintro e w4 ⟨vc, rfl, ho3, hb3⟩)))
  have HB4 := Lib.hid (bt (bt (bt (HB.out.drew) hb1) hb2) hb3)
  have HW4 := Lib.hid (((HWd.out.next hb1).next hb2).next hb3)
  have HR4 := Lib.hid (((HRd.out.next hb1).next hb2).next hb3)
  have HAB : Hid (∀ k, va.ownBlock = some k → w1.heap.size ≤ k ∧ k < w2.heap.size) := Lib.hid (fun k hk => ⟨ownsRow_block ho1 k hk, ownB_lt ho1 k hk⟩)
  have HBB : Hid (∀ k, vb.ownBlock = some k → w2.heap.size ≤ k ∧ k < w3.heap.size) := Lib.hid (fun k hk => ⟨ownsRow_block ho2 k hk, ownB_lt ho2 k hk⟩)
  have HCB : Hid (∀ k, vc.ownBlock = some k → w3.heap.size ≤ k) := Lib.hid (fun k hk => ownsRow_block ho3 k hk)
  have HA := Lib.hid ((ho1.next hb2).next hb3)
  have HBb := Lib.hid (ho2.next hb3)
  have HCc := Lib.hid ho3
  have HSZ : Hid (w.heap.size ≤ w1.heap.size ∧ w1.heap.size ≤ w2.heap.size ∧ w2.heap.size ≤ w3.heap.size ∧ w3.heap.size ≤ w4.heap.size) := Lib.hid ⟨HB.out.size, hb1.size, hb2.size, hb3.size⟩
  clear hb1 hb2 hb3 ho1 ho2 ho3 d1 d2 HWd HRd HW HR HB
  have d1 : w4.cell? ⟨x, 1, none⟩ = some (.int .i64 z) := HR4.out.cell 1
  go_wp2_with fail
  refine (rof_any w4 q g f HW4.out.rx z).mono ?_
  rintro e w5 ⟨u1, rfl, ho, hb⟩
  have HB5 := Lib.hid hb
  have HU1 := Lib.hid ho
  clear ho hb d1
  go_wp2_with fail
  refine (same_any w5 (ofL f z) (ofL f z) va u1 (HA.out.next HB5.out).slice HU1.out.slice (by have := ofL_len f z; omega)).mono ?_
  rintro e w6 ⟨rfl, hb⟩
  rw [show decide (ofL f z = ofL f z) = true from by simp]
  have HB6 := Lib.hid (bt HB5.out hb)
  clear hb HB5 HU1
  have d2 : w6.cell? ⟨x, 2, none⟩ = some (.int .i64 y) := (HR4.out.next HB6.out).cell 2
  go_wp2_with fail
  refine (rwho_any w6 q g f (HW4.out.rx.next HB6.out) y).mono ?_
  rintro e w7 ⟨u2, rfl, ho, hb⟩
  have HB7 := Lib.hid (bt HB6.out hb)
  have HU2 := Lib.hid ho
  clear ho hb HB6 d2
  go_wp2_with fail
  refine (same_any w7 (whoK 7 (f y)) (whoK 7 (f y)) vb u2 (HBb.out.next HB7.out).slice HU2.out.slice (by have := whoK_len 7 (f y); omega)).mono ?_
  rintro e w8 ⟨rfl, hb⟩
  rw [show decide (whoK 7 (f y) = whoK 7 (f y)) = true from by simp]
  have HB8 := Lib.hid (bt HB7.out hb)
  clear hb HB7 HU2
  go_wp2_with fail
  refine (rall_any w8 q g f (HW4.out.rx.next HB8.out)).mono ?_
  rintro e w9 ⟨u3, rfl, ho, hb⟩
  have HB9 := Lib.hid (bt HB8.out hb)
  have HU3 := Lib.hid ho
  clear ho hb HB8
  go_wp2_with fail
  refine (same_any w9 (allL f) (allL f) vc u3 (HCc.out.next HB9.out).slice HU3.out.slice (by have := theL_len (fun k => pAll (f k)); unfold allL; omega)).mono ?_
  rintro e w10 ⟨rfl, hb⟩
  rw [show decide (allL f = allL f) = true from by simp]
  have HB10 := Lib.hid (bt HB9.out hb)
  clear hb HB9 HU3
  go_wp2_with fail
  refine (spoil2_any w10 _ va _ (HA.out.next HB10.out) (by have := ofL_len f z; omega)).mono ?_
  rintro e w11 ⟨rfl, hf⟩
  have HB11 : Hid (Below w.heap.size w w11) := Lib.hid (by
    have h0 := bt HB4.out HB10.out
    exact Below.trans h0 (Fr.below hf h0.size (fun k e => by have := HAB.out k e; have := HSZ.out; omega)))
  have HBv : Hid (OwnI w2.heap.size (whoK 7 (f y)) vb w11) := Lib.hid (own_fr4 (HBb.out.next HB10.out) hf (fun k hk e => by have := HAB.out k e; have := HBB.out k hk; omega))
  have HCv : Hid (OwnI w3.heap.size (allL f) vc w11) := Lib.hid (own_fr4 (HCc.out.next HB10.out) hf (fun k hk e => by have := HAB.out k e; have := HCB.out k hk; have := HSZ.out; omega))
  clear hf
  go_wp2_with fail
  refine (spoil2_any w11 _ vb _ HBv.out (by have := whoK_len 7 (f y); omega)).mono ?_
  rintro e w12 ⟨rfl, hf⟩
  have HB12 : Hid (Below w.heap.size w w12) := Lib.hid (Below.trans HB11.out (Fr.below hf HB11.out.size (fun k e => by have := HBB.out k e; have := HSZ.out; omega)))
  have HCw : Hid (OwnI w3.heap.size (allL f) vc w12) := Lib.hid (own_fr4 HCv.out hf (fun k hk e => by have := HBB.out k e; have := HCB.out k hk; omega))
  clear hf
  go_wp2_with fail
  refine (spoil2_any w12 _ vc _ HCw.out (by have := theL_len (fun k => pAll (f k)); unfold allL; omega)).mono ?_
  rintro e w13 ⟨rfl, hf⟩
  have HB13 : Hid (Below w.heap.size w w13) := Lib.hid (Below.trans HB12.out (Fr.below hf HB12.out.size (fun k e => by have := HCB.out k e; have := HSZ.out; omega)))
  clear hf
  go_wp2_with fail
  all_goals refine bodyPost_ret (by simp [results, Try.results19, go_sem]; rfl) rfl ?_
  all_goals exact ⟨rfl, HB13.out⟩
end Go.Proofs.Ytaokogeblpjabaa
