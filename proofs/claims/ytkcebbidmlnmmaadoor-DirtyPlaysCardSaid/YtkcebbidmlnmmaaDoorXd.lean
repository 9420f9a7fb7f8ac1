/- The document's Over. -/
import Derived.Test.YtkcebbidmlnmmaaDoorXc
namespace Go.Proofs.YtkcebbidmlnmmaaDoor
open Go.RowKit
def lenOf (v : Value) : Nat := match v with | .slice _ n _ => n | _ => 0
def OvI (w : World) (k : Int) (L : List Wr) (f : List UInt8) (m : Nat) (v i : Value) (wr : World) : Prop :=
  ∃ j : Nat, j ≤ m ∧ i = .int .i64 j ∧ BR wr w.heap.size v (overL (sub k (L.take j)) f) ∧ Below w.heap.size w wr
theorem PuI.drew {w wi : World} {B pb : Nat} {T : TypeId} {row : List Value} {l1 : List UInt8} {a : Nat} {t : ByteArray} {v i : Value} (h : PuI w B pb T row l1 a t v i wi) : PuI w B pb T row l1 a t v i wi.drew := by
  obtain ⟨k, h1, h2, h3, h4, h5⟩ := h
  exact ⟨k, h1, h2, h3.next (Below.refl _ _).drew, h4.drew, h5.drew⟩
theorem overL_len (P : List Pt) (hP : ∀ p ∈ P, PtOk p) (f : List UInt8) (hf : f.length ≤ 100000) : (overL P f).length ≤ 100000 := by
  obtain ⟨m, h1, _, h3⟩ := sizeL_nat P f.length
  rw [h3 f rfl]
  have := sizeL_le P hP f.length 100000 (by omega) (by omega)
  omega
theorem sub_take_ok {L : List Wr} (h : ∀ p ∈ L, PtOk p.2) (k : Int) (j : Nat) : ∀ p ∈ sub k (L.take j), PtOk p := fun _ hp => h _ (List.mem_of_mem_take (sub_mem hp))
attribute [local go_sem ↓] Go.wp_at_zero Go.wp_at_succ
set_option maxHeartbeats 4000000 in
set_option maxRecDepth 20000 in
theorem rover_any (w : World) (q : Nat) (L : List Wr) (S : Nat → Prop) (h : Xf w q L S) (hok : Ok L) (k : Int) (s : ByteArray) (hs : s.size ≤ 100000) :
    Calls Tryd.prog 36 #[.pointer (some ⟨q, 0, none⟩), .int .i64 k, .string s] w fun e w' => e = .returned (.string ⟨(overL (sub k L) s.data.toList).toArray⟩) ∧ Below w.heap.size w w' := by
  obtain ⟨⟨v, hr, ho, _⟩, _, _⟩ := h
  have HR := Lib.hid hr
  obtain ⟨A, c, rfl, hc1, hc2, hat⟩ := ox_shape ho
  have hlen := hok.len
  have HAT := Lib.hid hat
  have HPT := Lib.hid hok.pt
  clear hat ho hr hok
  generalize hL : L.length = m at *
  have HM := Lib.hid hL
  clear hL
  obtain ⟨v0, w1, hcv, hb0, hw1⟩ := br_conv w s (by unfold maxLen; omega)
  have HB0 := Lib.hid hb0
  have HW1 := Lib.hid hw1
  have HSL := Lib.hid (size_len s)
  generalize s.data.toList = f at *
  clear hb0 hw1
  go_enter Tryd.func36, Tryd.ntmps36
  go_wp2_with fail
  clear hcv
  go_loopw [7, 8] (fun v i wr => OvI w k L f m v i wr) (fun _ i _ => m - (intOf i).toNat)
  case atStart => exact ⟨0, by omega, rfl, HB0.out, HW1.out⟩
  case round =>
    obtain ⟨j, hj, rfl, hbr, hb⟩ := hrel
    clear HB0 HW1
    have c0 := (HR.out.next hb).cell 0
    simp only [List.getElem?_cons_zero] at c0
    have HBR := Lib.hid hbr
    have HB := Lib.hid hb
    clear hbr hb
    by_cases hlt : j < m
    · obtain ⟨⟨k', a, t⟩, hp⟩ : ∃ p, L[j]? = some p := ⟨L[j]'(by rw [HM.out]; exact hlt), List.getElem?_eq_getElem _⟩
      obtain ⟨g, rfl, hgl, hcap, d1, d2, d3⟩ := HAT.out j _ hp
      simp only at d1 d2 d3
      have ht2 := (HPT.out _ (List.mem_of_getElem? hp)).2
      simp only at ht2
      have d1' := (HB.out.cell (p := ⟨g, j * 3, none⟩) hgl).trans d1
      have d2' := (HB.out.cell (p := ⟨g, j * 3 + 1, none⟩) hgl).trans d2
      have d3' := (HB.out.cell (p := ⟨g, j * 3 + 2, none⟩) hgl).trans d3
      have HT := Lib.hid (sub_take k L j _ hp)
      have e1 : IntKind.i64.wrap ((a : Int) + (t.size : Int)) = (a : Int) + (t.size : Int) := IntWalk.i64_in _ (by omega)
      have hlt' : (j : Int) < (m : Int) := by omega
      have j0 : (0 : Int) ≤ (j : Int) := by omega
      have HLN := Lib.hid (overL_len (sub k (L.take j)) (sub_take_ok HPT.out k j) f (by rw [HSL.out]; exact hs))
      obtain ⟨g0, cap0, rfl, hg0, hgl0, hcp1, hcp2, _⟩ := HBR.out.shape
      clear hp d1 d2 d3
      by_cases hk : k' = k
      · have hk' : (k' != k) = false := by simpa using hk
        have hk'' : (k' == k) = true := by simpa using hk
        subst hk
        have hal : Below wr.heap.size wr (wr.alloc (.cells #[.int .i64 k', .int .i64 (a : Int), .string t] 65)) := bA (Below.refl _ _) _
        have HR1 : Hid (RowAt (wr.alloc (.cells #[.int .i64 k', .int .i64 (a : Int), .string t] 65)) wr.heap.size 65 [.int .i64 k', .int .i64 (a : Int), .string t]) := Lib.hid (RowAt.new wr 65 [.int .i64 k', .int .i64 (a : Int), .string t])
        have HBR1 := Lib.hid (HBR.out.next hal)
        have HB1 := Lib.hid (HB.out.trans (hal.mono HB.out.size))
        have HT2 : Hid (overL (sub k' (L.take (j + 1))) f = ovr (overL (sub k' (L.take j)) f) (a, t)) := Lib.hid (by rw [HT.out]; simp [overL_snoc])
        clear hal
        go_wp2_with fail
        generalize overL (sub k' (L.take j)) f = l0 at *
        obtain ⟨pb, hpb⟩ : ∃ pb, pb = wr.heap.size := ⟨_, rfl⟩
        rw [← hpb] at HR1 ⊢
        generalize wr.alloc (.cells #[.int .i64 k', .int .i64 (a : Int), .string t] 65) = w2 at *
        clear hpb c0 d1' d2' d3' HB HBR
        go_loopw [7] (fun v wi => ExI w w.heap.size pb 65 [.int .i64 k', .int .i64 (a : Int), .string t] l0 (a + t.size) v wi) (fun v _ => a + t.size - lenOf v)
        case atStart => exact ⟨0, by simpa using HBR1.out, .inl rfl, HR1.out, HB1.out⟩
        case round =>
          obtain ⟨n0, hb1, hn1, hr1, hbl1⟩ := hrel
          have hlen1 : (l0 ++ List.replicate n0 (0 : UInt8)).length = l0.length + n0 := by simp
          obtain ⟨g1, cap1, e, hg1, hgl1, hc11, hc12, _⟩ := hb1.shape
          rw [hlen1] at e hc11
          subst e
          have x1 := hr1.cell 1
          have x2 := hr1.cell 2
          simp only [List.getElem?_cons_succ, List.getElem?_cons_zero] at x1 x2
          have HLN1 := Lib.hid HLN.out
          by_cases hlt2 : l0.length + n0 < a + t.size
          · obtain ⟨A', c', w', r1, hE, _⟩ := ExI.push (w := w) (by decide) (Nat.le_refl _) hb1 hr1 hbl1 hlt2 (by omega)
            have HAPP := Lib.hid r1
            have HE := Lib.hid hE
            have hEq : a + t.size - (l0.length + (n0 + 1)) < a + t.size - (l0.length + n0) := by omega
            have HM2 := Lib.hid hEq
            have gT : decide (((l0.length + n0 : Nat) : Int) < (a : Int) + (t.size : Int)) = true := by simp; omega
            clear r1 hE hb1 hr1 hbl1 hlt2 hn1 hlen1 hEq
            generalize l0.length + (n0 + 1) = N2 at *
            generalize l0.length + n0 = N1 at *
            go_wp2_with (at_builtin; refine wpList_app rfl (.tmp 42) (.tmp 43) 30 30 rfl rfl HAPP.out (by rfl) (by rfl) ?_)
            go_roundw
            case rel => exact HE.out
            case measure => exact HM2.out
          · have gT : decide (((l0.length + n0 : Nat) : Int) < (a : Int) + (t.size : Int)) = false := by simp; omega
            have e1 := ext_done (N := a + t.size) hn1 (by omega)
            rw [e1] at hb1 hlen1
            have HOV : Hid (putB (ext l0 (a + t.size)) a (t.data.toList.take t.size) = ovr l0 (a, t)) := Lib.hid (by
              rw [List.take_of_length_le (by rw [size_len]; exact Nat.le_refl _)]
              rfl)
            generalize ext l0 (a + t.size) = l1 at *
            have hfit : a + t.size ≤ l1.length := by omega
            rw [← hlen1] at gT hc11 hb1 ⊢
            have HBR2 := Lib.hid hb1
            have HR2 := Lib.hid hr1
            have HB2 := Lib.hid hbl1
            have HLE := Lib.hid hfit
            clear hb1 hr1 hbl1 hlt2 hn1 e1 hlen1
            go_wp2_with fail
            clear x1 x2
            go_loopw [10] (fun i wi => PuI w w.heap.size pb 65 [.int .i64 k', .int .i64 (a : Int), .string t] l1 a t (.slice (some ⟨g1, 0, none⟩) l1.length cap1) i wi) (fun i _ => t.size - (intOf i).toNat)
            case atStart => exact ⟨0, by omega, rfl, by rw [putB_zero']; exact HBR2.out, HR2.out, HB2.out⟩
            case round =>
              obtain ⟨k2, hk2, rfl, hb2, hr2, hbl2⟩ := hrel
              have x1 := hr2.cell 1
              have x2 := hr2.cell 2
              simp only [List.getElem?_cons_succ, List.getElem?_cons_zero] at x1 x2
              have hlen2 : (putB l1 a (t.data.toList.take k2)).length = l1.length := putB_len (by rw [List.length_take, size_len]; have := HLE.out; omega)
              by_cases hlt3 : k2 < t.size
              · obtain ⟨g2, cap2, e, _, hgl2, _, _, hat2⟩ := hb2.shape
                rw [hlen2] at e
                cases e
                obtain ⟨y1, y2⟩ := hat2 (a + k2) (by rw [hlen2]; have := HLE.out; omega)
                obtain ⟨u, hu⟩ : ∃ u, (List.map B8 (putB l1 a (t.data.toList.take k2)))[a + k2]? = some u := ⟨_, List.getElem?_eq_getElem (by rw [List.length_map, hlen2]; have := HLE.out; omega)⟩
                rw [hu] at y1
                have HS := Lib.hid (PuI.step (by decide) (Nat.le_refl _) hb2 hr2 hbl2 HLE.out hlt3)
                have e2 : IntKind.i64.wrap ((a : Int) + (k2 : Int)) = (a : Int) + (k2 : Int) := IntWalk.i64_in _ (by omega)
                have hle := HLE.out
                have i1 : (0 : Int) ≤ (a : Int) + (k2 : Int) := by omega
                have i2 : (a : Int) + (k2 : Int) < (l1.length : Int) := by omega
                have i3 : ((a : Int) + (k2 : Int)).toNat = a + k2 := by omega
                have i4 : (k2 : Int) < (t.size : Int) := by omega
                have i5 : (0 : Int) ≤ (k2 : Int) := by omega
                clear hat2 hu hb2 hr2 hbl2 hle
                go_wp2_with fail
                go_region_law fail
                all_goals go_wp2_with fail
                all_goals go_roundw
                all_goals first
                  | exact PuI.drew HS.out
                  | (simp [intOf]; omega)
              · obtain rfl : k2 = t.size := by omega
                rw [HOV.out] at hb2
                have HE := Lib.hid hb2
                have HBL := Lib.hid hbl2
                clear hb2 hbl2
                go_wp2_with fail
                go_roundw
                case rel => exact ⟨j + 1, by omega, by go_num, by rw [HT2.out]; exact HE.out, HBL.out⟩
                case measure => simp [intOf]; omega
      · have hk' : (k' != k) = true := by simpa using hk
        have hk'' : (k' == k) = false := by simpa using hk
        go_wp2_with fail
        all_goals go_roundw
        all_goals first
          | exact ⟨j + 1, by omega, by go_num, by rw [HT.out, if_neg hk, List.append_nil]; exact HBR.out.next (bA (Below.refl _ _) _), bA HB.out _⟩
          | (simp [intOf]; omega)
    · obtain rfl : j = m := by omega
      have e : L.take j = L := List.take_of_length_le (by rw [HM.out]; exact Nat.le_refl _)
      rw [e] at HBR
      have hst := br_string wr _ _ _ HBR.out
      obtain ⟨g0, cap0, rfl, _⟩ := HBR.out.shape
      go_wp2_with fail
      go_ret
      exact ⟨rfl, HB.out⟩
end Go.Proofs.YtkcebbidmlnmmaaDoor
