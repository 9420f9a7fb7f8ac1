/- ArcOnce: the walk. -/
import Derived.Test.YtefjpljjdjecjaaXd
import Derived.Test.YtefjpljjdjecjaaXf
namespace Go.Proofs.Ytefjpljjdjecjaa
open Go.RowKit
def ONv1 (w : World) (cb N n : Nat) (i : Value) (wr : World) : Prop := ∃ k : Nat, k ≤ n ∧ i = .int .i64 k ∧ (∃ p, PB w.heap.size wr cb p ∧ KB 1000 p ∧ p.room = N) ∧ Below w.heap.size w wr
def ONv2 (A : Nat → Prop) (w : World) (cb M : Nat) (p0 : Pu) (i : Value) (wr : World) : Prop := ∃ k : Nat, k ≤ M ∧ i = .int .i64 k ∧ (∃ p, PA A wr cb p ∧ OI (1000 + k) p0 p) ∧ Kp A w wr
theorem IntsAt.fr {M : Nat → Prop} {B : Nat} {l : List Int} {v : Value} {w w' : World} (h : IntsAt B l v w) (hf : Fr M w w') (hm : ∀ k, B ≤ k → k < w.heap.size → ¬ M k) : IntsAt B l v w' := by
  obtain ⟨a, cap, rfl, h1, h2, h3⟩ := h
  by_cases hl : l.length = 0
  · refine ⟨a, cap, rfl, ?_, h2, h3⟩
    obtain rfl : l = [] := by simpa using hl
    exact SliceAt.nil _ _
  · obtain ⟨b, off, rfl, hb, _⟩ := h1.get 0 (by omega)
    exact ⟨_, cap, rfl, h1.fr hf (fun x hx => by cases hx; exact hm _ (h3 _ rfl) hb), h2, h3⟩
theorem key_lt (z : Int) : wrap64 ((IntKind.u64.wrap z).tmod 1000) < 1000 := by
  have h0 : 0 ≤ IntKind.u64.wrap z := wrap_u64_nonneg z
  have h1 : 0 ≤ (IntKind.u64.wrap z).tmod 1000 := Int.tmod_nonneg _ h0
  have h2 : (IntKind.u64.wrap z).tmod 1000 < 1000 := Int.tmod_lt_of_pos _ (by decide)
  unfold wrap64
  omega
set_option maxRecDepth 20000 in
set_option maxHeartbeats 16000000 in
theorem once_law (w : World) (room : Int) (r0 : 0 ≤ room) (r1 : room < 256) (a : Option Addr) (n cap : Nat) (l : List St) (hs : StepsAt w a n l) (hm : n ≤ maxLen) (more : Nat) (m1 : more < 256) :
    Calls Try.prog 6 #[.int .u8 room, .slice a n cap, .int .u8 more] w fun e w' => e = .returned (.bool true) ∧ Below w.heap.size w w' := by
  unfold maxLen at hm
  have HS := Lib.hid hs
  have hrem : room % 20 < 20 := by omega
  have hrem0 : 0 ≤ room % 20 := by omega
  have m0 : (0 : Int) ≤ (more : Int) := by omega
  have m2 : (more : Int) < 256 := by omega
  clear hs
  go_enter Try.func6, Try.ntmps6
  go_wp2_with fail
  refine (works_any w).mono ?_
  rintro e w1 ⟨rfl, hb⟩
  have HB1 := Lib.hid hb
  clear hb
  by_cases hlen : n ≤ 200
  · obtain ⟨N, hN⟩ : ∃ N : Nat, 1 + room % 20 = (N : Int) := ⟨(1 + room % 20).toNat, by omega⟩
    have hN1 : 1 ≤ N := by omega
    have hN2 : N ≤ 20 := by omega
    go_wp2_with fail
    refine (new_pa w1 N (by omega) (by omega)).mono ?_
    rintro e w2 ⟨cb, rfl, hp, hb⟩
    have HP2 := Lib.hid (hp.mono (A' := (· < w.heap.size)) fun k hk => Nat.lt_of_lt_of_le hk HB1.out.size)
    have HB2 := Lib.hid (bt HB1.out hb)
    have HN := Lib.hid hN
    clear hp hb hN
    go_wp2_with fail
    go_loopw [10] (fun i wr => ONv1 w cb N n i wr) (fun i _ => n - (intOf i).toNat)
    case atStart => exact ⟨0, by omega, rfl, ⟨_, HP2.out, KB.new _ _, rfl⟩, HB2.out⟩
    case round =>
      obtain ⟨k, hk, rfl, ⟨p, hp, hkb, hroom⟩, hb⟩ := hrel
      have HP := Lib.hid hp
      have HKB := Lib.hid hkb
      have HRM := Lib.hid hroom
      have HB := Lib.hid hb
      clear hp hkb hroom hb
      by_cases hlt : k < n
      · obtain ⟨b1, o1, rfl, l1, hcs⟩ := HS.out.get k hlt
        have hll : k < l.length := by have := HS.out.1; omega
        obtain ⟨x, hx⟩ : ∃ x, l[k]? = some x := ⟨l[k], List.getElem?_eq_getElem _⟩
        obtain ⟨q1, q2, q3⟩ := hcs k x hx
        have hok := HS.out.2.1 x (List.mem_of_getElem? hx)
        obtain ⟨hk1, hc1, hy1, hy2⟩ := hok
        have d1 := (HB.out.cell (p := ⟨b1, o1 + k * 3, none⟩) l1).trans q1
        have d2 := (HB.out.cell (p := ⟨b1, o1 + k * 3 + 1, none⟩) l1).trans q2
        have d3 := (HB.out.cell (p := ⟨b1, o1 + k * 3 + 2, none⟩) l1).trans q3
        clear q1 q2 q3 hx hcs
        obtain ⟨kd, hkd⟩ : ∃ kd : Int, kd = x.kind := ⟨_, rfl⟩
        rw [← hkd] at d1
        have kd0 : 0 ≤ kd := by omega
        have kd1 : kd < 256 := by omega
        clear hkd
        obtain ⟨Y, hY⟩ : ∃ Y, Y = blk (x.c : Int) := ⟨_, rfl⟩
        have hb30 := built30c (x.c : Int)
        rw [← hY] at hb30
        have HB30 := Lib.hid hb30
        have HY := Lib.hid hY
        clear hY hb30
        by_cases hput : kd % 3 = 0
        · go_wp2_with (refine wpList_buildR (t := 30) (parts := #[(0, .tmp 73)]) (v := Y) rfl rfl [(0, .int .u8 (x.c : Int))] ?hl ?hbb ?_; (case hbb => with_reducible exact HB30.out); (case hl => simp only [List.map_toArray, List.map_cons, List.map_nil]; rfl))
          obtain ⟨ky, hky⟩ : ∃ ky, ky = wrap64 ((IntKind.u64.wrap x.key).tmod 1000) := ⟨_, rfl⟩
          have hkl : ky < 1000 := by rw [hky]; exact key_lt _
          rw [← hky]
          clear hky
          have hcp := put_pb wr cb p HP.out HB.out.size ky x.c
          rw [← HY.out] at hcp
          refine hcp.mono ?_
          rintro e W2 ⟨rfl, hp2, hk2⟩
          have HP2' := Lib.hid hp2
          have HB2' := Lib.hid (HB.out.trans hk2)
          clear hp2 hk2 hcp
          go_wp2_with fail
          go_roundw
          case rel => exact ⟨k + 1, by omega, by go_num, ⟨_, HP2'.out, HKB.out.put hkl _, (putP_room _ _ _).trans HRM.out⟩, HB2'.out⟩
          case measure => simp [intOf]; omega
        · by_cases hget : kd % 3 = 1
          · go_wp2_with fail
            obtain ⟨ky, hky⟩ : ∃ ky, ky = wrap64 ((IntKind.u64.wrap x.key).tmod 1000) := ⟨_, rfl⟩
            have hkl : ky < 1000 := by rw [hky]; exact key_lt _
            rw [← hky]
            clear hky
            refine (get_pb wr cb p HP.out HB.out.size ky).mono ?_
            rintro e W2 ⟨rfl, hp2, hk2⟩
            have HP2' := Lib.hid hp2
            have HB2' := Lib.hid (HB.out.trans hk2)
            clear hp2 hk2
            go_wp2_with fail
            go_roundw
            case rel => exact ⟨k + 1, by omega, by go_num, ⟨_, HP2'.out, HKB.out.get hkl, (getP_room _ _).trans HRM.out⟩, HB2'.out⟩
            case measure => simp [intOf]; omega
          · go_wp2_with fail
            obtain ⟨ky, hky⟩ : ∃ ky, ky = wrap64 ((IntKind.u64.wrap x.key).tmod 1000) := ⟨_, rfl⟩
            have hkl : ky < 1000 := by rw [hky]; exact key_lt _
            rw [← hky]
            clear hky
            by_cases hw : whereP p ky = none
            · refine (drop_pa_none wr cb p HP.out ky hw).mono ?_
              rintro e V ⟨rfl, rfl⟩
              go_wp2_with fail
              go_roundw
              case rel => exact ⟨k + 1, by omega, by go_num, ⟨_, HP.out, HKB.out, HRM.out⟩, HB.out⟩
              case measure => simp [intOf]; omega
            · refine (drop_pa_some wr cb p HP.out (fun k hk => Nat.lt_of_lt_of_le hk HB.out.size) ky hw).mono ?_
              rintro e V ⟨rfl, hp2, hk2⟩
              have HP2' := Lib.hid hp2
              have HB2' := Lib.hid (HB.out.trans (Kp.below hk2 HB.out.size))
              clear hp2 hk2
              go_wp2_with fail
              go_roundw
              case rel => exact ⟨k + 1, by omega, by go_num, ⟨_, HP2'.out, HKB.out.rm ky, HRM.out⟩, HB2'.out⟩
              case measure => simp [intOf]; omega
      · obtain rfl : k = n := by omega
        go_wp2_with fail
        refine (rows_pa wr cb p HP.out).mono ?_
        rintro e w3 ⟨v, rfl, ⟨t1, t2, g1, g2, rfl, i1, i2, i3, i4⟩, hb⟩
        have HB3 := Lib.hid (HB.out.trans (hb.mono HB.out.size))
        have HP3' := (HP.out.add hb).mono (A' := fun k => k < w.heap.size ∨ (wr.heap.size ≤ k ∧ k < w3.heap.size)) fun k hk => hk.imp id (·.1)
        obtain ⟨A, hA⟩ : ∃ A : Nat → Prop, A = fun k => k < w.heap.size ∨ (wr.heap.size ≤ k ∧ k < w3.heap.size) := ⟨_, rfl⟩
        rw [← hA] at HP3'
        have HP3 := Lib.hid HP3'
        have HA1 : Hid (∀ k, A k → k < w3.heap.size) := Lib.hid (by rw [hA]; intro k hk; have := HB3.out.size; omega)
        have HA3 : Hid (∀ k, k < w.heap.size → A k) := Lib.hid (by rw [hA]; intro k hk; exact .inl hk)
        obtain ⟨B3, hB3⟩ : ∃ b, b = wr.heap.size := ⟨_, rfl⟩
        have HA2 : Hid (∀ k, B3 ≤ k → k < w3.heap.size → A k) := Lib.hid (by rw [hA, hB3]; intro k h1 h2; exact .inr ⟨h1, h2⟩)
        have J2 : Hid (IntsAt B3 (ksP p.b) t2 w3) := Lib.hid (by rw [hB3]; exact i2)
        clear HP3' hA hB3
        have hz3 := hb.size
        clear i3 i4 hb HP2 HB2 HP
        obtain ⟨A1, c1, rfl, _, _, _⟩ := i1
        obtain ⟨A2, c2, rfl, _, _, _⟩ := i2
        obtain ⟨lb, hlb⟩ : ∃ x, x = (ksP p.b).length := ⟨_, rfl⟩
        obtain ⟨tg, htg⟩ : ∃ t, t = p.target := ⟨_, rfl⟩
        rw [← hlb] at J2 ⊢
        have hbl : (p.b.length : Int) = lb := by rw [hlb]; simp [ksP]
        have hlb5 : lb ≤ 100000 := by have h1 := HP3.out.wf.h1; rw [HRM.out] at h1; omega
        have HBL := Lib.hid hbl
        have HTG := Lib.hid htg
        clear hlb hbl htg
        go_wp2_with fail
        refine (target_pa _ cb p HP3.out).mono ?_
        rintro e w6 ⟨rfl, rfl⟩
        rw [← HTG.out]
        by_cases ht : tg = 0
        · by_cases hl : lb < N
          · have HOI : Hid (OI 1000 p p) := Lib.hid ⟨HKB.out, HTG.out.symm.trans ht, rfl, rfl⟩
            have HLB : Hid ((p.b.length : Int) < p.room) := Lib.hid (by rw [HBL.out, HRM.out]; omega)
            subst ht
            have hq1 : decide (N ≤ lb) = false := by simp; omega
            go_wp2_with fail
            go_loopw [16] (fun i wz => ONv2 A w3 cb more p i wz) (fun i _ => more - (intOf i).toNat)
            case atStart => exact ⟨0, by omega, rfl, ⟨p, HP3.out, by simpa using HOI.out⟩, Kp.refl _ _⟩
            case round =>
              obtain ⟨j, hj, rfl, ⟨q, hq, hoi⟩, hkp⟩ := hrel
              have HQ := Lib.hid hq
              have HO := Lib.hid hoi
              have HK := Lib.hid hkp
              clear hq hoi hkp
              by_cases hlj : j < more
              · have j2 : (j : Int) < 256 := by omega
                have j3 : (j : Int) < more := by omega
                obtain ⟨Y, hY⟩ : ∃ Y, Y = blk (j : Int) := ⟨_, rfl⟩
                have hb30 := built30c (j : Int)
                rw [← hY] at hb30
                have HB30 := Lib.hid hb30
                have HY := Lib.hid hY
                clear hY hb30
                have hput := put_pa wr cb q HQ.out (fun k hk => Nat.lt_of_lt_of_le (HA1.out k hk) HK.out.size) (1000 + j) j
                rw [← HY.out] at hput
                have HPUT := Lib.hid hput
                clear hput
                have HO2 := Lib.hid (HO.out.put HLB.out (j : Int))
                have HW0 : Hid (whereP q (1000 + j) = none) := Lib.hid (HO.out.kb.none (Int.le_refl _))
                go_wp2_with (refine wpList_buildR (t := 30) (parts := #[(0, .tmp 107)]) (v := Y) rfl rfl [(0, .int .u8 (j : Int))] ?hl ?hbb ?_; (case hbb => with_reducible exact HB30.out); (case hl => simp only [List.map_toArray, List.map_cons, List.map_nil]; rfl))
                refine HPUT.out.mono ?_
                rintro e V1 ⟨rfl, hq1, hk1⟩
                have HQ1 := Lib.hid hq1
                have HK1 := Lib.hid (Fr.trans HK.out hk1)
                clear hq1 hk1 HPUT
                have HLK : Hid (lookP (putP q (1000 + j) j) (1000 + j) = some (j : Int)) := Lib.hid (look_put HW0.out j HQ1.out.nk)
                have HKB2 : Hid (ksP (putP q (1000 + j) j).b = ksP p.b) := Lib.hid (by rw [HO2.out.b])
                go_wp2_with fail
                refine (rows_pa V1 cb _ HQ1.out).mono ?_
                rintro e V2 ⟨v, rfl, ⟨s1, s2, s3, s4, rfl, i1, i2, i3, i4⟩, hb⟩
                have HQ2 := Lib.hid (HQ1.out.next hb)
                have HK2 := Lib.hid (Kp.next (A := A) HK1.out hb)
                have J4 : Hid (IntsAt V1.heap.size (ksP p.b) s2 V2) := Lib.hid (by rw [← HKB2.out]; exact i2)
                clear i1 i2 i3 i4 hb
                go_wp2_with fail
                refine (copy_pa V2 cb _ HQ2.out).mono ?_
                rintro e V3 ⟨cb2, rfl, hc, hb3⟩
                have hget := get_pa_some V3 cb2 _ hc (fun k hk => Nat.lt_of_lt_of_le hk hb3.size) (1000 + j) j HLK.out
                rw [← HY.out] at hget
                have HGET := Lib.hid hget
                have HB3' := Lib.hid hb3
                clear hc hget hb3
                go_wp2_with fail
                refine HGET.out.mono ?_
                rintro e V4 ⟨rfl, _, hk4⟩
                have HB4 : Hid (Below V2.heap.size V2 V4) := Lib.hid (HB3'.out.trans (Kp.below hk4 HB3'.out.size))
                clear hk4 HGET HB3'
                obtain ⟨Z, hZ⟩ : ∃ Z, Z = blk 0 := ⟨_, rfl⟩
                have z30 : ∀ w, (zeroValue 30).run Try.prog w = .ok (.agg Z.toArray) w := by intro w; rw [hZ]; exact zero30 w
                have HC1 : Hid (OneC Y) := Lib.hid (by rw [HY.out]; exact blk_one _)
                have HI : Hid ((Try.prog.info? 30).map (·.size) = some Y.toArray.size) := Lib.hid (by rw [info30]; simp [HC1.out.1])
                have HOZ : Hid (Z.toArray.size = Y.toArray.size) := Lib.hid (by rw [hZ]; simp [HC1.out.1, (blk_one 0).1])
                have HD := Lib.hid (RowAt.new V4 30 Z)
                have HD5' := Lib.hid ((RowAt.new V4 30 Z).setRow (l' := Y))
                have hb5 : Below V4.heap.size V4 ((V4.alloc (.cells Z.toArray 30)).setRow V4.heap.size Y.toArray) := ((Below.refl _ _).alloc (Nat.le_refl _) _).trans (below_setRow (Nat.le_refl _))
                have HB5 := Lib.hid (bt HB4.out hb5)
                clear hb5 hZ
                go_wp2_with (refine wpList_store_row rfl 30 (.tmp 21) (.tmp 124) rfl V4.heap.size Y.toArray rfl rfl 30 Z.toArray HD.out HI.out HOZ.out HC1.out.2 ?_)
                generalize (V4.alloc (.cells Z.toArray 30)).setRow V4.heap.size Y.toArray = V5 at *
                obtain ⟨b9, hb9⟩ : ∃ b, b = V4.heap.size := ⟨_, rfl⟩
                have HD5 : Hid (RowAt V5 b9 30 Y) := Lib.hid (by rw [hb9]; exact HD5'.out)
                rw [← hb9]
                clear hb9 HD5' HD HI HOZ z30 HB4
                have HQ5 := Lib.hid (HQ2.out.next HB5.out)
                have HK5 := Lib.hid (Kp.next (A := A) HK2.out HB5.out)
                have J5 := Lib.hid (J4.out.next HB5.out)
                have J6 := Lib.hid (J2.out.fr HK5.out fun k h1 h2 hn => hn (HA2.out k h1 h2))
                refine (same_any V5 _ _ _ _ _ _ J6.out J5.out (by rw [ksP, List.length_map]; have := HBL.out; omega)).mono ?_
                rintro e V6 ⟨rfl, hb6⟩
                rw [show decide (ksP p.b = ksP p.b) = true from by simp]
                have HB6 := Lib.hid hb6
                have HD6 := Lib.hid (HD5.out.next hb6)
                have HE : Hid (∀ w, (Op.equalIn 10000 30 (.agg Y.toArray) (.agg Y.toArray)).run Try.prog w = .ok true w) := Lib.hid (by intro w; rw [HY.out, eq30]; simp)
                clear hb6
                go_wp2_with (first | (refine wpList_loadR (x := .tmp 21) rfl rfl rfl (load30 HD6.out HC1.out.1) ?_) | (refine wpList_buildR (t := 30) (parts := #[(0, .tmp 137)]) (v := Y) rfl rfl [(0, .int .u8 (j : Int))] ?hl ?hbb ?_; (case hbb => with_reducible exact HB30.out); (case hl => simp only [List.map_toArray, List.map_cons, List.map_nil]; rfl)) | (refine wpList_eqlR (x := .tmp 135) (y := .tmp 138) rfl rfl rfl rfl (guard30 _ _ _ _ _ _) (neq30 (HE.out _)) ?_))
                go_roundw
                case rel => exact ⟨j + 1, by omega, by go_num, ⟨_, HQ5.out.next HB6.out, by have := HO2.out; rwa [show (1000 : Int) + j + 1 = 1000 + ((j + 1 : Nat) : Int) from by omega] at this⟩, Kp.next HK5.out HB6.out⟩
                case measure => simp [intOf]; omega
              · obtain rfl : j = more := by omega
                go_wp2_with fail
                go_ret
                exact ⟨rfl, HB3.out.trans ((Kp.below (HK.out.mono fun k _ hn hk => hn (HA3.out k hk)) HB3.out.size))⟩
          · subst ht
            go_wp2_with fail
            go_ret
            exact ⟨rfl, HB3.out⟩
        · have htb : (tg == 0) = false := by simpa using ht
          have htn : (tg != 0) = true := by simpa using ht
          go_wp2_with fail
          go_ret
          exact ⟨rfl, HB3.out⟩
  · go_wp2_with fail
    refine (works_any w1).mono ?_
    rintro e w3 ⟨rfl, hb⟩
    have HB3 := Lib.hid (bt HB1.out hb)
    clear hb
    go_wp2
    go_ret
    exact ⟨rfl, HB3.out⟩
end Go.Proofs.Ytefjpljjdjecjaa
