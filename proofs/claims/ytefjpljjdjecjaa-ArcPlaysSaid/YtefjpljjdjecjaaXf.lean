/- Copy: the walk. -/
import Derived.Test.YtefjpljjdjecjaaXc
namespace Go.Proofs.Ytefjpljjdjecjaa
open Go.RowKit
def CInner (w0 : World) (s : Cs) (cb2 r : Nat) (x : Value) (wr : World) : Prop := ∃ L1 L2 s', x = ptr (nx L2 none) ∧ s.R r = L1 ++ L2 ∧ CI w0 s cb2 r L1 wr s'
def COuter (w0 : World) (s : Cs) (cb2 : Nat) (i : Value) (wr : World) : Prop := ∃ r : Nat, i = .int .i64 r ∧ ((r < 4 ∧ ∃ s', CI w0 s cb2 r [] wr s') ∨ (r = 4 ∧ ∃ s', CI w0 s cb2 3 (s.R 3) wr s'))
def rl (cb r : Nat) (w : World) : Nat := match w.cell? ⟨cb, r * 3 + 2, none⟩ with
  | some (.int _ n) => n.toNat
  | _ => 0
theorem CI.len {w0 wr : World} {s s' : Cs} {cb r : Nat} {L1 : List It} (h : CI w0 s cb r L1 wr s') (hr : r < 4) : rl cb r wr = L1.length := by
  obtain ⟨_, _, k2⟩ := cells_at s'.R (.map (some s'.mb)) s'.room s'.target r hr
  unfold rl
  rw [(h.ca.ra.row.cell (r * 3 + 2)).trans k2, h.at_.length]
  simp
theorem ptr_eq (o : Option Nat) : ptr o = .pointer (o.map fun b => ⟨b, 0, none⟩) := by cases o <;> rfl
set_option maxHeartbeats 4000000 in
theorem copy_any (w : World) (cb : Nat) (s : Cs) (h : CA w cb s) :
    Calls Try.prog 17 #[.pointer (some ⟨cb, 0, none⟩)] w fun e w' => ∃ cb2 s', e = .returned (.pointer (some ⟨cb2, 0, none⟩)) ∧ CI w s cb2 3 (s.R 3) w' s' := by
  have c13 : w.cell? ⟨cb, 13, none⟩ = some (.int .i64 s.room) := h.ra.row.cell 13
  have c14 : w.cell? ⟨cb, 14, none⟩ = some (.int .i64 s.target) := h.ra.row.cell 14
  have cbl : cb < w.heap.size := h.ra.row.lt
  have hmk := make61
  have H := Lib.hid h
  clear h
  go_enter Try.func17, Try.ntmps17
  go_wp2_with fail
  refine wp_region_parts (by kernel_rfl) (by kernel_rfl) ?_
  have hb0 : Below w.heap.size w w.drew := (Below.refl _ _).drew
  generalize w.drew = W at *
  apply regL_lq W.heap.size
  intro D hD hn
  have p13 := fun z : Bd W.heap.size W D => ((bt hb0 z.ok).cell (p := ⟨cb, 13, none⟩) cbl).trans c13
  have p14 := fun z : Bd W.heap.size W D => ((bt hb0 z.ok).cell (p := ⟨cb, 14, none⟩) cbl).trans c14
  repeat (apply wpLQ_pin rfl rfl; intro K hK; go_big_quiet_op; go_big_quiet_on; apply And.intro rfl)
  apply wpLQ_end (bar_of (by kernel_rfl))
  intro W1 hb1 _
  have hb01 := bt hb0 hb1
  clear p13 p14 hn hD hb1 hb0 c13 c14
  apply regL_one (bar_of (by kernel_rfl)) rfl
  unfold Oper.wp
  go_simp
  have hrow0 : RowAt (W1.alloc (.cells #[.pointer none, .pointer none, .int .i64 0, .pointer none, .pointer none, .int .i64 0, .pointer none, .pointer none, .int .i64 0, .pointer none, .pointer none, .int .i64 0, .map none, .int .i64 s.room, .int .i64 s.target] 69)) W1.heap.size 69 (cells emptyR (.map none) s.room s.target) := RowAt.new W1 69 (cells emptyR (.map none) s.room s.target)
  have hb2 := hb01.alloc hb01.size (.cells #[.pointer none, .pointer none, .int .i64 0, .pointer none, .pointer none, .int .i64 0, .pointer none, .pointer none, .int .i64 0, .pointer none, .pointer none, .int .i64 0, .map none, .int .i64 s.room, .int .i64 s.target] 69)
  have hcb := hb01.size
  generalize W1.alloc (.cells #[.pointer none, .pointer none, .int .i64 0, .pointer none, .pointer none, .int .i64 0, .pointer none, .pointer none, .int .i64 0, .pointer none, .pointer none, .int .i64 0, .map none, .int .i64 s.room, .int .i64 s.target] 69) = W2 at *
  obtain ⟨cb2, hcb2⟩ : ∃ c, c = W1.heap.size := ⟨_, rfl⟩
  rw [← hcb2] at hrow0 hcb ⊢
  clear hcb2 hb01
  apply regL_lq W2.heap.size
  intro D hD hn
  repeat (apply wpLQ_pin rfl rfl; intro K hK; go_big_quiet_op; go_big_quiet_on; apply And.intro rfl)
  apply wpLQ_nil (by simp)
  intro W3 hb3 _
  have hrow := hrow0.next hb3
  have hb4 := bt hb2 hb3
  clear hrow0 hb3 hb2 hn hD
  have c12 : W3.cell? ⟨cb2, 12, none⟩ = some (.map none) := hrow.cell 12
  have f12 : W3.frozen? ⟨cb2, 12, none⟩ = false := hrow.free 12
  have l12 := hrow.lt
  have HROW := Lib.hid hrow
  have HB4 := Lib.hid hb4
  clear hrow hb4
  go_wp2_with fail
  have HI0 : Hid (CI w s cb2 0 [] ((W3.setCell ⟨cb2, 12, none⟩ (.map (some W3.heap.size))).alloc (.map #[] 0)) ⟨emptyR, W3.heap.size, s.room, s.target⟩) := Lib.hid (by
    have hr1 := (HROW.out.set 12 (.map (some W3.heap.size))).alloc (.map #[] 0)
    have hmd := MapAt.made (W3.setCell ⟨cb2, 12, none⟩ (.map (some W3.heap.size)))
    rw [show (W3.setCell ⟨cb2, 12, none⟩ (.map (some W3.heap.size))).heap.size = W3.heap.size from by simp] at hmd
    have hbz := HB4.out.setCell (p := ⟨cb2, 12, none⟩) hcb (.map (some W3.heap.size))
    refine ⟨newT_ca _ cb2 W3.heap.size s.room s.target H.out.rm.1 H.out.rm.2 H.out.tg.1 H.out.tg.2 hr1 hmd (by omega), fun i hi => absurd hi (Nat.not_lt_zero _), rfl, fun i _ _ => rfl, rfl, rfl, ?_, hbz.alloc hbz.size _⟩
    rintro k (e | e | ⟨x, hx, _⟩)
    · omega
    · have := HB4.out.size; simp at e; omega
    · simp [allI, emptyR] at hx)
  generalize (W3.setCell ⟨cb2, 12, none⟩ (.map (some W3.heap.size))).alloc (.map #[] 0) = W4 at *
  clear c12 f12 HROW l12
  go_loopw [24] (fun i wr => COuter w s cb2 i wr) (fun i _ => 4 - (intOf i).toNat)
  case atStart => exact ⟨0, rfl, .inl ⟨by decide, _, HI0.out⟩⟩
  case round =>
    obtain ⟨r, rfl, ⟨hr, s1, hI⟩ | ⟨rfl, s1, hI⟩⟩ := hrel
    · have HI := Lib.hid hI
      clear hI
      obtain ⟨k0, _, _⟩ := cells_at s.R (.map (some s.mb)) s.room s.target r hr
      have c0 := (HI.out.bl.cell (p := ⟨cb, r * 3, none⟩) cbl).trans ((H.out.ra.row.cell (r * 3)).trans k0)
      rw [ptr_eq] at c0
      obtain ⟨q0, hq0⟩ : ∃ q, q = (nx (s.R r) none).map fun b => (⟨b, 0, none⟩ : Addr) := ⟨_, rfl⟩
      rw [← hq0] at c0
      have HQ0 := Lib.hid hq0
      clear k0 hq0
      have r0 : (0 : Int) ≤ (r : Int) := by omega
      have r1 : (r : Int) < 4 := by omega
      go_wp2_with fail
      clear c0
      obtain ⟨wo, hwo⟩ : ∃ wo : World, wo = wr := ⟨_, rfl⟩
      have HI2 : Hid (CI w s cb2 r [] wo s1) := Lib.hid (by rw [hwo]; exact HI.out)
      rw [← hwo]
      clear hwo HI
      go_loopw [5] (fun x wz => CInner w s cb2 r x wz) (fun _ wz => (s.R r).length - rl cb2 r wz)
      case atStart => exact ⟨[], s.R r, s1, by rw [HQ0.out, ptr_eq], rfl, HI2.out⟩
      case round =>
        obtain ⟨L1, L2, s2, rfl, hR, hI⟩ := hrel
        have HI := Lib.hid hI
        have HR := Lib.hid hR
        clear hI hR
        cases L2 with
        | nil =>
          rw [show ptr (nx [] none) = .pointer none from rfl]
          go_wp2_with fail
          go_roundw
          case rel =>
            have e : s.R r = L1 := by rw [HR.out, List.append_nil]
            have hi := HI.out
            rw [← e] at hi
            refine ⟨r + 1, by go_num, ?_⟩
            by_cases h4 : r + 1 < 4
            · exact .inl ⟨h4, s2, hi.row h4⟩
            · obtain rfl : r = 3 := by omega
              exact .inr ⟨rfl, s2, hi⟩
          case measure => simp [intOf]; omega
        | cons x L2 =>
          rw [show ptr (nx (x :: L2) none) = .pointer (some ⟨x.b, 0, none⟩) from rfl]
          have hit : RowAt w x.b 73 (itCells x r (lastB L1 none) (nx L2 none)) := by
            have := H.out.ra.lk r hr
            rw [HR.out] at this
            exact this.split
          have hitl := hit.lt
          have i0 := (HI.out.bl.cell (p := ⟨x.b, 0, none⟩) hitl).trans (hit.cell 0)
          have i2 := (HI.out.bl.cell (p := ⟨x.b, 2, none⟩) hitl).trans (hit.cell 2)
          have HIT := Lib.hid hit
          simp only [itCells, List.getElem?_cons_zero, List.getElem?_cons_succ, ptr_eq] at i0 i2
          have hitz : x.b < wr.heap.size := Nat.lt_of_lt_of_le hitl HI.out.bl.size
          obtain ⟨pd, hpd⟩ : ∃ q, q = x.d.map fun b => (⟨b, 0, none⟩ : Addr) := ⟨_, rfl⟩
          rw [← hpd] at i2
          have HPD := Lib.hid hpd
          clear hit hpd
          go_wp2_with fail
          refine wp_region_parts (by kernel_rfl) (by kernel_rfl) ?_
          have hb0 : Below wr.heap.size wr wr.drew := (Below.refl _ _).drew
          generalize wr.drew = W at *
          apply regL_lq W.heap.size
          intro D hD hn
          have p0 := fun z : Bd W.heap.size W D => ((bt hb0 z.ok).cell (p := ⟨x.b, 0, none⟩) hitz).trans i0
          have p2 := fun z : Bd W.heap.size W D => ((bt hb0 z.ok).cell (p := ⟨x.b, 2, none⟩) hitz).trans i2
          repeat (apply wpLQ_pin rfl rfl; intro K hK; go_big_quiet_op; go_big_quiet_on; apply And.intro rfl)
          apply wpLQ_end (bar_of (by kernel_rfl))
          intro W1 hb1 _
          have HJ := Lib.hid (HI.out.next (bt hb0 hb1))
          clear p0 p2 hn hD hb1 hb0 i0 i2
          apply regL_one (bar_of (by kernel_rfl)) rfl
          unfold Oper.wp
          go_simp
          have HYR : Hid (RowAt (W1.alloc (.cells #[.int .i64 x.key, .int .i64 0, .pointer pd, .pointer none, .pointer none] 73)) W1.heap.size 73 [.int .i64 x.key, .int .i64 0, .pointer pd, .pointer none, .pointer none]) := Lib.hid (RowAt.new W1 73 _)
          have hal : Below W1.heap.size W1 (W1.alloc (.cells #[.int .i64 x.key, .int .i64 0, .pointer pd, .pointer none, .pointer none] 73)) := (Below.refl _ _).alloc (Nat.le_refl _) _
          have HJ2 := Lib.hid (HJ.out.next hal)
          clear hal
          obtain ⟨W5, hW5⟩ : ∃ W5, W5 = W1.alloc (.cells #[.int .i64 x.key, .int .i64 0, .pointer pd, .pointer none, .pointer none] 73) := ⟨_, rfl⟩
          rw [← hW5] at HYR HJ2 ⊢
          have HW5 := Lib.hid hW5
          obtain ⟨yb, hyb⟩ : ∃ y, y = W1.heap.size := ⟨_, rfl⟩
          rw [← hyb] at HYR ⊢
          have HYB := Lib.hid hyb
          clear hW5 hyb
          apply regL_lq W5.heap.size
          intro D hD hn
          repeat (apply wpLQ_pin rfl rfl; intro K hK; go_big_quiet_op; go_big_quiet_on; apply And.intro rfl)
          apply wpLQ_nil (by simp)
          intro W6 hb6 _
          have HB6 := Lib.hid hb6
          clear hb6 hn hD
          have HYR6 := Lib.hid (HYR.out.next HB6.out)
          have HJ6 := Lib.hid (HJ2.out.next HB6.out)
          have j12 : W6.cell? ⟨cb2, 12, none⟩ = some (.map (some s2.mb)) := HJ6.out.ca.ra.row.cell 12
          have k0 : W6.cell? ⟨yb, 0, none⟩ = some (.int .i64 x.key) := HYR6.out.cell 0
          have kl := HYR6.out.lt
          have jl : cb2 < W6.heap.size := HJ6.out.ca.ra.row.lt
          go_wp2_with fail
          refine wp_region_parts (by kernel_rfl) (by kernel_rfl) ?_
          have hb0 : Below W6.heap.size W6 W6.drew := (Below.refl _ _).drew
          generalize W6.drew = W at *
          apply regL_lq W.heap.size
          intro D hD hn
          have p0 := fun z : Bd W.heap.size W D => ((bt hb0 z.ok).cell (p := ⟨cb2, 12, none⟩) jl).trans j12
          have p2 := fun z : Bd W.heap.size W D => ((bt hb0 z.ok).cell (p := ⟨yb, 0, none⟩) kl).trans k0
          repeat (apply wpLQ_pin rfl rfl; intro K hK; go_big_quiet_op; go_big_quiet_on; apply And.intro rfl)
          apply wpLQ_end (bar_of (by kernel_rfl))
          intro W7 hb7 _
          have HB7 := Lib.hid (bt HB6.out (bt hb0 hb7))
          have HJ7 := Lib.hid (HJ2.out.next HB7.out)
          have HYR7 := Lib.hid (HYR.out.next HB7.out)
          clear p0 p2 hn hD hb7 hb0 j12 k0 kl jl
          obtain ⟨U, hrun, mp, hf2, _⟩ := run_upd (P := Try.prog) HJ7.out.ca.mp Try.underlying61 Try.underlying3 x.key (.pointer (some ⟨yb, 0, none⟩))
          have HRUN := Lib.hid hrun
          have HM := Lib.hid mp
          have HF2 := Lib.hid hf2
          clear hrun mp hf2
          apply regL_one (bar_of (by kernel_rfl)) rfl
          refine wp_upd rfl rfl rfl rfl HRUN.out ?_
          apply regL_nil
          have hyl : ∀ k, Own cb2 s2 k → k < yb := fun k hk => by rw [HYB.out]; exact HJ.out.ca.lt hk
          have hcy : yb ≠ cb2 := fun e => by have := hyl cb2 (.inl rfl); omega
          have hmy : yb ≠ s2.mb := fun e => by have := hyl s2.mb (.inr (.inl rfl)); omega
          have hat := attach_any U cb2 s2.R (.map (some s2.mb)) s2.room s2.target (HJ7.out.ca.ra.fr HF2.out (fun e => HJ7.out.ca.mc e.symm) (fun y hy e => HJ7.out.ca.mi y hy e)) r hr ⟨yb, x.key, x.d, x.v⟩ (.int .i64 0) (.pointer none) (.pointer none)
            (by have := HYR7.out.fr HF2.out hmy; rw [HPD.out, ← ptr_eq] at this; exact this) hcy (fun y hy e => by have := hyl y.b (.inr (.inr ⟨y, hy, rfl⟩)); simp at e; omega)
            (by have h1 := H.out.ra.len r hr; rw [HR.out] at h1; have h2 := HJ.out.at_.length; simp at h1; omega)
          have HAT := Lib.hid hat
          clear hat hyl hcy hmy
          go_wp2_with fail
          refine HAT.out.mono ?_
          rintro e U2 ⟨rfl, ra3, hf3⟩
          have hfree : fk (allI s2.R) x.key = none := HJ.out.free hr HR.out H.out.nk
          have HG : Hid (Goes cb2 s2 (addR s2 r ⟨yb, x.key, x.d, x.v⟩) W1 (.returned (.tuple #[])) U2) := Lib.hid (by
            refine addR_goes HJ.out.ca hr ⟨yb, x.key, x.d, x.v⟩ HYB.out hfree (fun d hd => ?_) (.cells #[.int .i64 x.key, .int .i64 0, .pointer pd, .pointer none, .pointer none] 73) HM.out ?_ ra3 hf3
            · obtain ⟨g1, g2⟩ := H.out.dt x (mem_allI.2 ⟨r, hr, by rw [HR.out]; simp⟩) d hd
              exact ⟨g1.below HJ.out.bl g1.lt, fun ho => by have := HJ.out.own d ho; have := g1.lt; omega⟩
            · rw [← HW5.out]; exact (Fr.of_below HB7.out).trans HF2.out)
          have HN : Hid (CI w s cb2 r (L1 ++ [x]) U2 (addR s2 r ⟨yb, x.key, x.d, x.v⟩)) := Lib.hid (HJ.out.step ⟨yb, x.key, x.d, x.v⟩ rfl HG.out)
          have i4 := (HN.out.bl.cell (p := ⟨x.b, 4, none⟩) hitl).trans (HIT.out.cell 4)
          simp only [itCells, List.getElem?_cons_zero, List.getElem?_cons_succ, ptr_eq] at i4
          obtain ⟨pn, hpn⟩ : ∃ q, q = (nx L2 none).map fun b => (⟨b, 0, none⟩ : Addr) := ⟨_, rfl⟩
          rw [← hpn] at i4
          have HPN := Lib.hid hpn
          clear hpn ra3 hf3 hfree
          go_wp2_with fail
          go_roundw
          case rel => exact ⟨L1 ++ [x], L2, _, by rw [HPN.out, ptr_eq], by rw [HR.out]; simp, HN.out⟩
          case measure =>
            rw [HN.out.len hr, HI.out.len hr, HR.out]
            simp
            omega
    · go_wp2
      go_ret
      exact ⟨cb2, s1, rfl, hI⟩
theorem copy_pa {A : Nat → Prop} (w : World) (cb : Nat) (p : Pu) (h : PA A w cb p) : Calls Try.prog 17 #[.pointer (some ⟨cb, 0, none⟩)] w fun e w' => ∃ cb2, e = .returned (.pointer (some ⟨cb2, 0, none⟩)) ∧ PA (· < w.heap.size) w' cb2 p ∧ Below w.heap.size w w' := by
  obtain ⟨s, h1, rfl, h3, h4, h5⟩ := h
  refine (copy_any w cb s h1).mono ?_
  rintro e w' ⟨cb2, s', rfl, hc⟩
  exact ⟨cb2, rfl, hc.pa rfl h3 h4, hc.bl⟩
end Go.Proofs.Ytefjpljjdjecjaa
