/- DirtyReads: the walk. -/
import Derived.Test.YtkcebbidmlnmmaaDoorXe
import Derived.Deep.CutBlock
import Derived.Deep.CutRange
import Derived.Deep.DeepCutAuto
namespace Go.Proofs.YtkcebbidmlnmmaaDoor
open Go.RowKit
/-- Behind j steps. -/
def RdI (w : World) (p : Nat) (f : List UInt8) (io ap : Int) (n : Nat) (v ot i : Value) (wr : World) : Prop :=
  ∃ (j : Nat) (L : List Wr), j ≤ n ∧ i = .int .i64 j ∧ XB w.heap.size p L wr ∧ BR wr w.heap.size v (overL (sub io L) f) ∧ ot = .string ⟨(overL (sub ap L) f).toArray⟩ ∧ Below w.heap.size w wr
def fstN (l : List So) : Int := match l with | [] => 1 | s :: _ => s.n
def apN (io : Int) : Int := if io = 7 then 8 else 7
theorem apN_ne (io : Int) : apN io ≠ io := by unfold apN; split <;> omega
attribute [local go_sem ↓] Go.wp_at_zero Go.wp_at_succ
set_option maxHeartbeats 4000000 in
set_option maxRecDepth 20000 in
/-- From the loop on. -/
theorem reads_ino (w : World) (a : Option Addr) (n cap : Nat) (l : List So) (hl : OpsAt w a n l) (s : ByteArray) :
    Calls Tryd.prog 4 #[.slice a n cap, .string s] w fun e w' => e = .returned (.bool true) ∧ Below w.heap.size w w' := by
  have HO := Lib.hid hl
  have HG := Lib.hid (longs_any w a n cap l hl)
  clear hl
  go_enter Tryd.func4, Tryd.ntmps4
  go_wp2_with fail
  refine HG.out.mono ?_
  rintro e w1 ⟨b, rfl, rfl, hb⟩
  have HSM := Lib.hid hb
  clear hb HG
  cases b with
  | true =>
    go_wp2_with fail
    refine (awake_any _).mono ?_
    rintro e w2 ⟨rfl, hb⟩
    go_wp2_with fail
    all_goals refine bodyPost_ret (by simp [results, Tryd.results4, go_sem]; rfl) rfl ?_
    all_goals exact ⟨rfl, hb⟩
  | false =>
    obtain ⟨hn, hts⟩ := HSM.out rfl
    have HTS := Lib.hid hts
    clear HSM hts
    by_cases h2 : 3000 < s.size
    · have g2 : decide ((s.size : Int) > 3000) = true := by simp; omega
      go_wp2_with fail
      refine (awake_any _).mono ?_
      rintro e w2 ⟨rfl, hb⟩
      go_wp2_with fail
      all_goals refine bodyPost_ret (by simp [results, Tryd.results4, go_sem]; rfl) rfl ?_
      all_goals exact ⟨rfl, hb⟩
    have g2 : decide ((s.size : Int) > 3000) = false := by simp; omega
    have hs : s.size ≤ 100000 := by omega
    go_wp2_with fail
    refine (awake_any _).mono ?_
    rintro e w2 ⟨rfl, hb⟩
    have HB2 := Lib.hid hb
    clear hb
    go_wp2_with fail
    refine (new_f w2).mono ?_
    rintro e w3 ⟨rfl, ⟨S, s1, s2⟩, hb⟩
    have HX : Hid (XB w1.heap.size (w2.heap.size + 1) [] w3) := Lib.hid ⟨S, s1, fun i hi => Nat.le_trans HB2.out.size (s2 i hi)⟩
    have HB3 := Lib.hid (bt HB2.out hb)
    clear s1 s2 hb HB2
    generalize w2.heap.size + 1 = p at *
    obtain ⟨v0, w4, hcv, hb0, hw4⟩ := br_conv w3 s (by unfold maxLen; omega)
    have HX4 := Lib.hid ((xb_st _ _ _).nx HX.out hw4)
    have HB4 := Lib.hid (bt HB3.out hw4)
    obtain ⟨g0, cap0, e0, hg0, hgl0, hc0, _⟩ := hb0.shape
    have HBR : Hid (BR w4 w1.heap.size v0 s.data.toList) := Lib.hid (by
      obtain ⟨g, cap, cur, fz, e, h1, h2⟩ := hb0
      exact ⟨g, cap, cur, fz, e, Nat.le_trans HB3.out.size h1, h2⟩)
    subst e0
    clear hb0 hw4 HX HB3 hgl0
    go_upto_if 30 with fail
    go_cut [7] (fun s7 wx => s7 = .int .i64 (fstN l) ∧ wx = w4)
    case first =>
      by_cases h0 : n = 0
      · have e0 : decide ((n : Int) > 0) = false := by simp; omega
        have e1 : fstN l = 1 := by
          have : l = [] := List.eq_nil_of_length_eq_zero (by rw [HO.out.1, h0])
          rw [this]; rfl
        clear hcv
        go_wp2_with fail
        go_meet
        case rel => exact ⟨by rw [e1], rfl⟩
      · have e0 : decide ((n : Int) > 0) = true := by simp; omega
        obtain ⟨b1, o1, rfl, l1, hat⟩ := (HO.out.next HB4.out).get 0 (by omega)
        obtain ⟨so, hso⟩ : ∃ so, l[0]? = some so := ⟨l[0]'(by rw [HO.out.1]; omega), List.getElem?_eq_getElem _⟩
        obtain ⟨_, d1, _⟩ := hat 0 so hso
        have e1 : fstN l = so.n := by
          cases l with
          | nil => simp at hso
          | cons x r => simp at hso; rw [hso]; rfl
        have h0' : (0 : Int) < (n : Int) := by omega
        clear hat hcv
        go_wp2_with fail
        go_meet
        case rel => exact ⟨by rw [e1], rfl⟩
    case rest =>
      obtain ⟨rfl, rfl⟩ := hcut
      generalize fstN l = io at *
      go_upto_if 36 with fail
      go_cut [8] (fun s8 wx => s8 = .int .i64 (apN io) ∧ wx = wc)
      case first =>
        by_cases h7 : io = 7
        · have e8 : apN io = 8 := if_pos h7
          have e7 : (io == 7) = true := by simpa using h7
          go_wp2_with fail
          go_meet
          case rel => exact ⟨by rw [e8], rfl⟩
        · have e8 : apN io = 7 := if_neg h7
          have e7 : (io == 7) = false := by simpa using h7
          go_wp2_with fail
          go_meet
          case rel => exact ⟨by rw [e8], rfl⟩
      case rest =>
        obtain ⟨rfl, rfl⟩ := hcut
        have hne := apN_ne io
        generalize apN io = ap at *
        have HSL := Lib.hid (size_len s)
        have HOV := Lib.hid (fun (W : World) (B : Nat) (L : List Wr) (h : XB B p L W) (k : Int) => over_x W B p L h k s hs)
        generalize s.data.toList = f at *
        go_wp2_with fail
        refine (HOV.out _ _ _ HX4.out ap).mono ?_
        rintro e w5 ⟨rfl, hb⟩
        have HX5 := Lib.hid ((xb_st _ _ _).nx HX4.out hb)
        have HBR5 := Lib.hid (HBR.out.next hb)
        have HB5 := Lib.hid (bt HB4.out hb)
        have e0 : s.size = f.length := HSL.out.symm
        clear hb HX4 HBR HB4
        go_wp2_with fail
        go_loopw [6, 9, 10] (fun v ot i wr => RdI w1 p f io ap n v ot i wr) (fun _ _ i _ => n - (intOf i).toNat)
        case atStart => exact ⟨0, [], by omega, rfl, HX5.out, HBR5.out, rfl, HB5.out⟩
        case round =>
          obtain ⟨j, L, hj, rfl, hx, hbr, rfl, hbl⟩ := hrel
          clear HX5 HBR5 HB5
          have HLL : Hid ((overL (sub io L) f).length ≤ 100000) := Lib.hid (overL_len _ (by obtain ⟨S', q1, _⟩ := hx; exact q1.ok.sub) f (by rw [HSL.out]; exact hs))
          have HX := Lib.hid hx
          have HBR := Lib.hid hbr
          have HBL := Lib.hid hbl
          clear hx hbr hbl
          by_cases hlt : j < n
          · obtain ⟨b1, o1, rfl, l1, hat⟩ := (HO.out.next HBL.out).get j hlt
            obtain ⟨⟨kd, k, a, t⟩, hso⟩ : ∃ so, l[j]? = some so := ⟨l[j]'(by rw [HO.out.1]; exact hlt), List.getElem?_eq_getElem _⟩
            obtain ⟨d0, d1, d2, d3⟩ := hat j _ hso
            have hok := HO.out.2.1 _ (List.mem_of_getElem? hso)
            have hts := HTS.out _ (List.mem_of_getElem? hso)
            simp only at d0 d1 d2 d3 hts
            have HKO := Lib.hid hok
            have hlt' : (j : Int) < (n : Int) := by omega
            have j0 : (0 : Int) ≤ (j : Int) := by omega
            clear hat hso hok
            obtain ⟨g, cap2, rfl, hg, hgl, hc1, hc2, _⟩ := HBR.out.shape
            have hal : Below wr.heap.size wr (wr.alloc (.cells #[.int .u8 (kd : Int), .int .i64 k, .int .i64 a, .string t] 32)) := bA (Below.refl _ _) _
            have HX1 := Lib.hid ((xb_st _ _ _).nx HX.out hal)
            have HBR1 := Lib.hid (HBR.out.next hal)
            have HBL1 := Lib.hid (bt HBL.out hal)
            have HR1 : Hid (RowAt (wr.alloc (.cells #[.int .u8 (kd : Int), .int .i64 k, .int .i64 a, .string t] 32)) wr.heap.size 32 [.int .u8 (kd : Int), .int .i64 k, .int .i64 a, .string t]) := Lib.hid (RowAt.new wr 32 [.int .u8 (kd : Int), .int .i64 k, .int .i64 a, .string t])
            clear hal
            by_cases k0 : kd = 0
            · have g0 : decide ((kd : Int) > 1) = false := by simp; omega
              have g1 : ((kd : Int) == 1) = false := by simp; omega
              clear k0
              go_wp2_with fail
              refine (write_x _ _ p L HX1.out HBL1.out.size k a t _ _ HBR1.out _ _ HR1.out).mono ?_
              rintro e w6 ⟨rfl, hx, hbr, hr, hb⟩
              have HBL6 := Lib.hid (HBL1.out.trans hb)
              have y1 := hr.cell 1
              have y2 := hr.cell 2
              have y3 := hr.cell 3
              simp only [List.getElem?_cons_succ, List.getElem?_cons_zero] at y1 y2 y3
              have HBR6 := Lib.hid hbr
              have HR6 := Lib.hid hr
              clear hbr hr hb HX1 HBR1 HBL1 HR1 d0 d1 d2 d3 g0 g1 HX HBR HBL
              generalize wr.heap.size = pb at *
              by_cases hE : writeE L k a t = 0
              · have hz := writeE_zero.1 hE
                have HSO : Hid (∀ x : Int, x ≠ k → sub x (writeL L k a t) = sub x L) := Lib.hid (fun x hx => sub_write_other hx)
                have HSW := Lib.hid (sub_write hE)
                have HX6 := Lib.hid hx
                rw [hE]
                clear hx
                by_cases hka : k = ap
                · have gk : (k == ap) = true := by simpa using hka
                  have gk2 : (k == io) = false := by simp; omega
                  have gk3 : (k != io) = true := by simp; omega
                  have HNE : Hid (io ≠ k) := Lib.hid (by omega)
                  have HKA := Lib.hid hka
                  clear hka hE hz
                  generalize writeL L k a t = L' at *
                  go_wp2_with fail
                  refine (HOV.out _ _ _ HX6.out ap).mono ?_
                  rintro e w7 ⟨rfl, hb⟩
                  have HX7 := Lib.hid ((xb_st _ _ _).nx HX6.out hb)
                  have HBR7 := Lib.hid (HBR6.out.next hb)
                  have HBL7 := Lib.hid (bt HBL6.out hb)
                  have z1 := (HR6.out.next hb).cell 1
                  have z2 := (HR6.out.next hb).cell 2
                  have z3 := (HR6.out.next hb).cell 3
                  simp only [List.getElem?_cons_succ, List.getElem?_cons_zero] at z1 z2 z3
                  clear hb y1 y2 y3
                  go_wp2_with fail
                  all_goals go_roundw
                  all_goals first
                    | exact ⟨j + 1, L', by omega, by go_num, HX7.out, by rw [HSO.out io HNE.out]; exact HBR7.out, rfl, HBL7.out⟩
                    | (simp [intOf]; omega)
                · have gk : (k == ap) = false := by simpa using hka
                  have HNA : Hid (ap ≠ k) := Lib.hid (fun e => hka e.symm)
                  by_cases hki : k = io
                  · have gk2 : (k == io) = true := by simpa using hki
                    have gk3 : (k != io) = false := by simpa using hki
                    by_cases ht0 : t.size = 0
                    · have ht := str_nil t ht0
                      have hl : writeL L k a t = L := by unfold writeL; rw [if_neg (fun x => x.2 ht0)]
                      rw [hl] at HX6
                      clear HSO HSW hl hE hz hka hki ht0
                      subst ht
                      go_wp2_with fail
                      all_goals go_roundw
                      all_goals first
                        | exact ⟨j + 1, L, by omega, by go_num, HX6.out, HBR6.out, rfl, HBL6.out⟩
                        | (simp [intOf]; omega)
                    · have hts2 : t.toList.isEmpty = false := by
                        rw [Lib.toList_data]
                        cases h : t.data.toList with
                        | nil => exact absurd (show t.size = 0 by rw [ByteArray.size, ← Array.length_toList, h]; rfl) ht0
                        | cons _ _ => rfl
                      obtain ⟨z0, z1, z2, z3⟩ := hz
                      obtain ⟨A, rfl⟩ : ∃ A : Nat, a = A := ⟨a.toNat, by omega⟩
                      rw [show ((A : Int)).toNat = A from rfl, if_neg ht0] at HSW
                      have HOVR : Hid (overL (sub io (writeL L k A t)) f = ovr (overL (sub io L) f) (A, t)) := Lib.hid (by rw [← hki, HSW.out, overL_snoc])
                      have hLl := HLL.out
                      have HAP := Lib.hid (HSO.out ap HNA.out)
                      have hfit : A + t.size ≤ 32768 := by omega
                      have e1 : IntKind.i64.wrap ((A : Int) + (t.size : Int)) = (A : Int) + (t.size : Int) := IntWalk.i64_in _ (by omega)
                      clear hki hka hE z0 z1 z2 z3 HSO HSW HNA
                      generalize writeL L k A t = L' at *
                      generalize overL (sub io L) f = l0 at *
                      go_wp2_with fail
                      clear y1 y2 y3
                      go_loopw [6] (fun v wi => ExI w1 w1.heap.size pb 32 [.int .u8 (kd : Int), .int .i64 k, .int .i64 (A : Int), .string t] l0 (A + t.size) v wi ∧ XB w1.heap.size p L' wi) (fun v _ => A + t.size - lenOf v)
                      case atStart => exact ⟨⟨0, by simpa using HBR6.out, .inl rfl, HR6.out, HBL6.out⟩, HX6.out⟩
                      case round =>
                        obtain ⟨⟨n0, hb1, hn1, hr1, hbl1⟩, hx1⟩ := hrel
                        have hlen1 : (l0 ++ List.replicate n0 (0 : UInt8)).length = l0.length + n0 := by simp
                        obtain ⟨g1, cap1, e, hg1, hgl1, hc11, hc12, _⟩ := hb1.shape
                        rw [hlen1] at e hc11
                        subst e
                        have x2 := hr1.cell 2
                        have x3 := hr1.cell 3
                        simp only [List.getElem?_cons_succ, List.getElem?_cons_zero] at x2 x3
                        by_cases hlt2 : l0.length + n0 < A + t.size
                        · obtain ⟨A', c', w', r1, b1', x1', bl', rows⟩ := push_st (xb_st _ p L') hb1 hx1 hbl1.size (by rw [hlen1]; omega)
                          rw [hlen1] at r1 b1'
                          rw [List.append_assoc, ← List.replicate_succ'] at b1'
                          have HAPP := Lib.hid r1
                          have HE : Hid (ExI w1 w1.heap.size pb 32 [.int .u8 (kd : Int), .int .i64 k, .int .i64 (A : Int), .string t] l0 (A + t.size) (.slice A' (l0.length + n0 + 1) c') w' ∧ XB w1.heap.size p L' w') := Lib.hid ⟨⟨n0 + 1, b1', .inr (by omega), rows _ _ _ hr1 (by decide), hbl1.trans bl'⟩, x1'⟩
                          have HM2 : Hid (A + t.size - (l0.length + n0 + 1) < A + t.size - (l0.length + n0)) := Lib.hid (by omega)
                          have gT : decide (((l0.length + n0 : Nat) : Int) < (A : Int) + (t.size : Int)) = true := by simp; omega
                          clear r1 b1' x1' bl' rows hb1 hr1 hbl1 hlt2 hn1 hlen1 hx1
                          generalize l0.length + n0 + 1 = N2 at *
                          generalize l0.length + n0 = N1 at *
                          go_wp2_with (at_builtin; refine wpList_app rfl (.tmp 104) (.tmp 105) 30 30 rfl rfl HAPP.out (by rfl) (by rfl) ?_)
                          go_roundw
                          case rel => exact HE.out
                          case measure => exact HM2.out
                        · have gT : decide (((l0.length + n0 : Nat) : Int) < (A : Int) + (t.size : Int)) = false := by simp; omega
                          have e1 := ext_done (N := A + t.size) hn1 (by omega)
                          rw [e1] at hb1 hlen1
                          have HOV2 : Hid (putB (ext l0 (A + t.size)) A (t.data.toList.take t.size) = ovr l0 (A, t)) := Lib.hid (by
                            rw [List.take_of_length_le (by rw [size_len]; exact Nat.le_refl _)]
                            rfl)
                          generalize ext l0 (A + t.size) = l1 at *
                          have hfit2 : A + t.size ≤ l1.length := by omega
                          rw [← hlen1] at gT hc11 hb1 ⊢
                          have HBR2 := Lib.hid hb1
                          have HR2 := Lib.hid hr1
                          have HB2 := Lib.hid hbl1
                          have HX2 := Lib.hid hx1
                          have HLE := Lib.hid hfit2
                          clear hb1 hr1 hbl1 hlt2 hn1 e1 hlen1 hx1
                          go_wp2_with fail
                          clear x2 x3
                          go_loopw [12] (fun i wi => PuI w1 w1.heap.size pb 32 [.int .u8 (kd : Int), .int .i64 k, .int .i64 (A : Int), .string t] l1 A t (.slice (some ⟨g1, 0, none⟩) l1.length cap1) i wi ∧ XB w1.heap.size p L' wi) (fun i _ => t.size - (intOf i).toNat)
                          case atStart => exact ⟨⟨0, by omega, rfl, by rw [putB_zero']; exact HBR2.out, HR2.out, HB2.out⟩, HX2.out⟩
                          case round =>
                            obtain ⟨⟨k2, hk2, rfl, hb2, hr2, hbl2⟩, hx2⟩ := hrel
                            have x2 := hr2.cell 2
                            have x3 := hr2.cell 3
                            simp only [List.getElem?_cons_succ, List.getElem?_cons_zero] at x2 x3
                            have hlen2 : (putB l1 A (t.data.toList.take k2)).length = l1.length := putB_len (by rw [List.length_take, size_len]; have := HLE.out; omega)
                            by_cases hlt3 : k2 < t.size
                            · obtain ⟨g2, cap2, e, _, hgl2, _, _, hat2⟩ := hb2.shape
                              rw [hlen2] at e
                              cases e
                              obtain ⟨y1, y2⟩ := hat2 (A + k2) (by rw [hlen2]; have := HLE.out; omega)
                              obtain ⟨u, hu⟩ : ∃ u, (List.map B8 (putB l1 A (t.data.toList.take k2)))[A + k2]? = some u := ⟨_, List.getElem?_eq_getElem (by rw [List.length_map, hlen2]; have := HLE.out; omega)⟩
                              rw [hu] at y1
                              have HS := Lib.hid (PuI.step (by decide) (Nat.le_refl _) hb2 hr2 hbl2 HLE.out hlt3)
                              have HXS := Lib.hid (set_st (xb_st _ p L') hb2 hx2 (A + k2) (B8 t[k2]))
                              have e2 : IntKind.i64.wrap ((A : Int) + (k2 : Int)) = (A : Int) + (k2 : Int) := IntWalk.i64_in _ (by omega)
                              have hle := HLE.out
                              have i1 : (0 : Int) ≤ (A : Int) + (k2 : Int) := by omega
                              have i2 : (A : Int) + (k2 : Int) < (l1.length : Int) := by omega
                              have i3 : ((A : Int) + (k2 : Int)).toNat = A + k2 := by omega
                              have i4 : (k2 : Int) < (t.size : Int) := by omega
                              have i5 : (0 : Int) ≤ (k2 : Int) := by omega
                              clear hat2 hu hb2 hr2 hbl2 hle hx2
                              go_wp2_with fail
                              go_region_law fail
                              all_goals go_wp2_with fail
                              all_goals go_roundw
                              all_goals first
                                | exact ⟨PuI.drew HS.out, (xb_st _ _ _).nx HXS.out (Below.refl _ _).drew⟩
                                | (simp [intOf]; omega)
                            · obtain rfl : k2 = t.size := by omega
                              rw [HOV2.out, ← HOVR.out] at hb2
                              have HE := Lib.hid hb2
                              have HBL := Lib.hid hbl2
                              have HX7 := Lib.hid hx2
                              clear hb2 hbl2 hx2
                              go_wp2_with fail
                              refine (HOV.out _ _ _ HX7.out ap).mono ?_
                              rintro e w7 ⟨rfl, hb⟩
                              have HX8 := Lib.hid ((xb_st _ _ _).nx HX7.out hb)
                              have HBR8 := Lib.hid (HE.out.next hb)
                              have HBL8 := Lib.hid (bt HBL.out hb)
                              clear hb x2 x3
                              rw [HAP.out]
                              obtain ⟨r, hr⟩ : ∃ r : ByteArray, (⟨(overL (sub ap L) f).toArray⟩ : ByteArray) = r := ⟨_, rfl⟩
                              rw [hr]
                              have HRR := Lib.hid hr
                              clear hr
                              go_wp2_with fail
                              all_goals go_roundw
                              all_goals first
                                | exact ⟨j + 1, L', by omega, by go_num, HX8.out, HBR8.out, by rw [HAP.out, HRR.out], HBL8.out⟩
                                | (simp [intOf]; omega)
                  · have gk2 : (k == io) = false := by simpa using hki
                    have gk3 : (k != io) = true := by simpa using hki
                    have HNI : Hid (io ≠ k) := Lib.hid (fun e => hki e.symm)
                    clear hki hka hE hz
                    generalize writeL L k a t = L' at *
                    go_wp2_with fail
                    all_goals go_roundw
                    all_goals first
                      | exact ⟨j + 1, L', by omega, by go_num, HX6.out, by rw [HSO.out io HNI.out]; exact HBR6.out, by rw [HSO.out ap HNA.out], HBL6.out⟩
                      | (simp [intOf]; omega)
              · have hl : writeL L k a t = L := by unfold writeL; rw [if_neg (fun x => hE x.1)]
                rw [hl] at hx
                have HX6 := Lib.hid hx
                have gx : (writeE L k a t == 0) = false := by simpa using hE
                have gx2 : (writeE L k a t != 0) = true := by simpa using hE
                clear hx hl hE
                generalize writeE L k a t = x at *
                go_wp2_with fail
                all_goals go_roundw
                all_goals first
                  | exact ⟨j + 1, L, by omega, by go_num, HX6.out, HBR6.out, rfl, HBL6.out⟩
                  | (simp [intOf]; omega)
            · by_cases k1 : kd = 1
              · have g0 : decide ((kd : Int) > 1) = false := by simp; omega
                have g1 : ((kd : Int) == 1) = true := by simp; omega
                clear k0 k1
                go_wp2_with fail
                all_goals go_roundw
                all_goals first
                  | exact ⟨j + 1, L, by omega, by go_num, HX1.out, HBR1.out, rfl, HBL1.out⟩
                  | (simp [intOf]; omega)
              · have g0 : decide ((kd : Int) > 1) = true := by simp; omega
                clear k0 k1
                go_wp2_with fail
                all_goals go_roundw
                all_goals first
                  | exact ⟨j + 1, L, by omega, by go_num, HX1.out, HBR1.out, rfl, HBL1.out⟩
                  | (simp [intOf]; omega)
          · obtain rfl : j = n := by omega
            have hst := fun x : Bw wr.heap.size wr => br_string x.val _ _ _ (HBR.out.next x.ok)
            obtain ⟨g, cap2, rfl, hg, hgl, hc1, hc2, _⟩ := HBR.out.shape
            obtain ⟨m, hm1, _, hm3⟩ := sizeL_nat (sub io L) f.length
            have hNm := hm3 f rfl
            have HSZ : Hid (∀ x : Bw wr.heap.size wr, Calls Tryd.prog 15 #[.pointer (some ⟨p, 0, none⟩), .int .i64 io, .int .i64 (f.length : Int)] x.val fun e w' => e = .returned (.int .i64 ((overL (sub io L) f).length : Int)) ∧ Below x.val.heap.size x.val w') := Lib.hid (fun x => by
              have h := size_x x.val _ p L ((xb_st _ _ _).nx HX.out x.ok) io s.size
              rw [← HSL.out, hm1, ← hNm] at h
              exact h)
            have HOX : Hid (∀ x : Bw wr.heap.size wr, Calls Tryd.prog 13 #[.pointer (some ⟨p, 0, none⟩), .int .i64 io, .string s] x.val fun e w' => e = .returned (.string ⟨(overL (sub io L) f).toArray⟩) ∧ Below x.val.heap.size x.val w') := Lib.hid (fun x => HOV.out _ _ _ ((xb_st _ _ _).nx HX.out x.ok) io)
            clear hm1 hm3 hNm HBR
            generalize (⟨(overL (sub io L) f).toArray⟩ : ByteArray) = r at *
            generalize (overL (sub io L) f).length = N at *
            go_wp2_with fail
            refine wp_region_bw wr.heap.size (by kernel_rfl) (by kernel_rfl) ?_
            repeat (go_big_quiet_step (first | (go_at_call 13; with_reducible exact Calls.bw (Nat.le_refl _) _ (HOX.out _)) | (go_at_call 15; with_reducible exact Calls.bw (Nat.le_refl _) _ (HSZ.out _))))
            refine wpQuiet_nil ?_
            rintro w' ⟨x, rfl⟩
            clear hst
            go_wp2_with fail
            all_goals refine bodyPost_ret (by simp [results, Tryd.results4, go_sem]; rfl) rfl ?_
            all_goals exact ⟨rfl, bt HBL.out x.ok⟩
end Go.Proofs.YtkcebbidmlnmmaaDoor
