/- What is told of both. -/
import Derived.Test.YtkcebbidmlnmmaaDoorXn
import Derived.Test.YtkcebbidmlnmmaaDoorXd
namespace Go.Proofs.YtkcebbidmlnmmaaDoor
open Go.RowKit
theorem OwnI.put {B : Nat} {l : List Int} {g n cap : Nat} {w : World} (h : OwnI B l (.slice (some ⟨g, 0, none⟩) n cap) w) (hn : l.length = n) (i : Nat) (x : Int) : OwnI B (l.set i x) (.slice (some ⟨g, 0, none⟩) n cap) (w.setCell ⟨g, i, none⟩ (.int .i64 x)) := by
  subst hn
  rcases h.2 with ⟨e, h0⟩ | ⟨g', cap', cur, e, hg, hb, h1, h2, h3, h4⟩
  · cases e
  · cases e
    refine ⟨by simp, .inr ⟨g, cap, cur.setIfInBounds i (.int .i64 x), by rw [List.length_set], hg, ?_, by rw [List.length_set]; exact h1, h2, by simpa using h3, ?_⟩⟩
    · simp only [World.setCell, Array.getElem?_modify, hb]
      simp
    · rw [Nat.mul_one] at h4
      rw [List.length_set, Array.toList_setIfInBounds, Nat.mul_one, List.take_set, h4, List.map_set]
      rfl
def SpK (w1 : World) (B : Nat) (v : Value) (n : Nat) (i : Value) (W : World) : Prop := ∃ j O, j ≤ n ∧ i = .int .i64 (j : Nat) ∧ O.length = n ∧ OwnI B O v W ∧ Below B w1 W
set_option maxHeartbeats 4000000 in
set_option maxRecDepth 20000 in
theorem like_any (w : World) (p q : Nat) (L : List Wr) (S : Nat → Prop) (h : Pr w p q L S) (kd : Nat) (k a : Int) (t s : ByteArray) (hs : s.size ≤ 100000) :
    Calls Tryd.prog 20 #[.pointer (some ⟨p, 0, none⟩), .pointer (some ⟨q, 0, none⟩), .agg #[.int .u8 kd, .int .i64 k, .int .i64 a, .string t], .string s] w fun e w' => e = .returned (.bool true) ∧ Below w.heap.size w w' := by
  have hal : Below w.heap.size w (w.alloc (.cells #[.int .u8 kd, .int .i64 k, .int .i64 a, .string t] 32)) := bA (Below.refl _ _) _
  have HW := Lib.hid (h.next hal)
  have HB := Lib.hid hal
  have HR : Hid (RowAt (w.alloc (.cells #[.int .u8 kd, .int .i64 k, .int .i64 a, .string t] 32)) w.heap.size 32 [.int .u8 kd, .int .i64 k, .int .i64 a, .string t]) := Lib.hid (RowAt.new w 32 [.int .u8 kd, .int .i64 k, .int .i64 a, .string t])
  have HOK := Lib.hid h.ok
  clear h hal
  go_enter Tryd.func20, Tryd.ntmps20
  go_wp2_with fail
  generalize w.alloc (.cells #[.int .u8 kd, .int .i64 k, .int .i64 a, .string t] 32) = w1 at *
  obtain ⟨x, hx⟩ : ∃ x, x = w.heap.size := ⟨_, rfl⟩
  rw [← hx] at HR ⊢
  clear hx
  have HWHO : Hid (∀ W, Pr W p q L S → Calls Tryd.prog 23 #[.pointer (some ⟨p, 0, none⟩)] W fun e w' => ∃ O v, e = .returned v ∧ OwnI W.heap.size O v w' ∧ So2 O (keysL L) ∧ Below W.heap.size W w') := Lib.hid (fun W hW => by
    obtain ⟨S1, S2, h1, _⟩ := hW.ex
    exact who_f W p L S1 h1)
  have HRWHO : Hid (∀ W, Pr W p q L S → Calls Tryd.prog 34 #[.pointer (some ⟨q, 0, none⟩)] W fun e w' => ∃ O v, e = .returned v ∧ OwnI W.heap.size O v w' ∧ So2 O (keysL L) ∧ Below W.heap.size W w') := Lib.hid (fun W hW => by
    obtain ⟨S1, S2, _, h2, _⟩ := hW.ex
    exact rwho_any W q L S2 h2 HOK.out)
  refine (HWHO.out w1 HW.out).mono ?_
  rintro e w2 ⟨O, v, rfl, ho, hso, hb⟩
  have HO := Lib.hid ho
  have HSO := Lib.hid hso
  have HB2 := Lib.hid hb
  have HW2 := Lib.hid (HW.out.next hb)
  clear ho hso hb HWHO
  go_wp2_with fail
  refine (HRWHO.out w2 HW2.out).mono ?_
  rintro e w3 ⟨O', u, rfl, ho, hso, hb⟩
  obtain rfl : O = O' := so2_unique HSO.out hso
  have HO2 := Lib.hid ho
  have HO3 := Lib.hid (HO.out.next hb)
  have HB3 := Lib.hid (bt HB2.out hb)
  have hlen : O.length ≤ 70000 := by
    have h1 := hso.len
    have h2 := HOK.out.len
    simp [keysL] at h1
    omega
  clear ho hso hb HRWHO HSO HO HW2 HB2
  go_wp2_with fail
  have hsame := same_any w3 O O v u HO3.out.slice HO2.out.slice (by omega)
  rw [show decide (O = O) = true by simp] at hsame
  refine hsame.mono ?_
  clear hsame
  rintro e w4 ⟨rfl, hb⟩
  have HO4 := Lib.hid (HO3.out.next hb)
  have HB4 := Lib.hid (bt HB3.out hb)
  obtain ⟨A, c, rfl⟩ := HO4.out.shape
  clear hb HO3 HB3 HO2
  generalize hn : O.length = n at *
  have HN := Lib.hid hn
  clear hn
  go_wp2_with fail
  go_loopw [11] (fun i wr => SpK w1 w1.heap.size (.slice A n c) n i wr) (fun i _ => n - (intOf i).toNat)
  case atStart => exact ⟨0, O, by omega, rfl, HN.out, HO4.out, HB4.out⟩
  case round =>
    obtain ⟨j, O1, hj, rfl, hl, ho, hb⟩ := hrel
    clear HO4 HB4 HN
    by_cases hlt : j < n
    · obtain ⟨y, hy⟩ : ∃ y, O1[j]? = some y := ⟨O1[j]'(by omega), List.getElem?_eq_getElem _⟩
      obtain ⟨g, rfl, hg, hgl, hcell, hfz⟩ := ho.at j y hy
      have HS := Lib.hid (ho.put hl j (-7))
      have HBS := Lib.hid (hb.setCell (p := ⟨g, j, none⟩) hg (.int .i64 (-7)))
      have HL := Lib.hid hl
      have hlt' : (j : Int) < (n : Int) := by omega
      have j0 : (0 : Int) ≤ (j : Int) := by omega
      clear hy hg ho hb hl hgl
      go_wp2_with fail
      go_roundw
      case rel => exact ⟨j + 1, _, by omega, by go_num, by rw [List.length_set]; exact HL.out, HS.out, HBS.out⟩
      case measure => simp [intOf]; omega
    · obtain rfl : j = n := by omega
      have HPR := Lib.hid (HW.out.next hb)
      have HBE := Lib.hid (HB.out.trans (hb.mono HB.out.size))
      have x1 := fun z : Bw wr.heap.size wr => (HR.out.next (bt hb z.ok)).cell 1
      have x2 := fun z : Bw wr.heap.size wr => (HR.out.next (bt hb z.ok)).cell 2
      simp only [List.getElem?_cons_succ, List.getElem?_cons_zero] at x1 x2
      have HH : Hid (∀ z : Bw wr.heap.size wr, Calls Tryd.prog 16 #[.pointer (some ⟨p, 0, none⟩)] z.val fun e w' => e = .returned (.int .i64 (tot L : Int)) ∧ Below z.val.heap.size z.val w') := Lib.hid (fun z => by
        obtain ⟨S1, S2, h1, _⟩ := (HPR.out.next z.ok).ex
        exact held_f _ p L S1 h1)
      have HRH : Hid (∀ z : Bw wr.heap.size wr, Calls Tryd.prog 35 #[.pointer (some ⟨q, 0, none⟩)] z.val fun e w' => e = .returned (.int .i64 (tot L : Int)) ∧ Below z.val.heap.size z.val w') := Lib.hid (fun z => by
        obtain ⟨S1, S2, _, h2, _⟩ := (HPR.out.next z.ok).ex
        exact rheld_any _ q L S2 h2 HOK.out)
      have HV : Hid (∀ z : Bw wr.heap.size wr, Calls Tryd.prog 13 #[.pointer (some ⟨p, 0, none⟩), .int .i64 k, .string s] z.val fun e w' => e = .returned (.string ⟨(overL (sub k L) s.data.toList).toArray⟩) ∧ Below z.val.heap.size z.val w') := Lib.hid (fun z => by
        obtain ⟨S1, S2, h1, _⟩ := (HPR.out.next z.ok).ex
        exact over_f _ p L S1 h1 k s hs)
      have HRV : Hid (∀ z : Bw wr.heap.size wr, Calls Tryd.prog 36 #[.pointer (some ⟨q, 0, none⟩), .int .i64 k, .string s] z.val fun e w' => e = .returned (.string ⟨(overL (sub k L) s.data.toList).toArray⟩) ∧ Below z.val.heap.size z.val w') := Lib.hid (fun z => by
        obtain ⟨S1, S2, _, h2, _⟩ := (HPR.out.next z.ok).ex
        exact rover_any _ q L S2 h2 HOK.out k s hs)
      have HZ : Hid (∀ m : Int, ∀ z : Bw wr.heap.size wr, Calls Tryd.prog 15 #[.pointer (some ⟨p, 0, none⟩), .int .i64 k, .int .i64 m] z.val fun e w' => e = .returned (.int .i64 (sizeL (sub k L) m)) ∧ Below z.val.heap.size z.val w') := Lib.hid (fun m z => by
        obtain ⟨S1, S2, h1, _⟩ := (HPR.out.next z.ok).ex
        exact size_f _ p L S1 h1 k m)
      have HRZ : Hid (∀ m : Int, ∀ z : Bw wr.heap.size wr, Calls Tryd.prog 37 #[.pointer (some ⟨q, 0, none⟩), .int .i64 k, .int .i64 m] z.val fun e w' => e = .returned (.int .i64 (sizeL (sub k L) m)) ∧ Below z.val.heap.size z.val w') := Lib.hid (fun m z => by
        obtain ⟨S1, S2, _, h2, _⟩ := (HPR.out.next z.ok).ex
        exact rsize_any _ q L S2 h2 HOK.out k m)
      clear ho hb hl HW HR HB
      generalize (⟨(overL (sub k L) s.data.toList).toArray⟩ : ByteArray) = r at *
      obtain ⟨y1, hy1⟩ : ∃ y, y = sizeL (sub k L) (s.size : Int) := ⟨_, rfl⟩
      obtain ⟨y2, hy2⟩ : ∃ y, y = sizeL (sub k L) a := ⟨_, rfl⟩
      have HZ1 := Lib.hid (HZ.out (s.size : Int))
      have HZ2 := Lib.hid (HZ.out a)
      have HRZ1 := Lib.hid (HRZ.out (s.size : Int))
      have HRZ2 := Lib.hid (HRZ.out a)
      rw [← hy1] at HZ1 HRZ1
      rw [← hy2] at HZ2 HRZ2
      clear hy1 hy2 HZ HRZ
      generalize (tot L : Int) = T at *
      go_wp2_with fail
      refine wp_region_bw wr.heap.size (by kernel_rfl) (by kernel_rfl) ?_
      repeat (go_big_quiet_step (first
        | (go_at_call 16; with_reducible exact Calls.bw (Nat.le_refl _) _ (HH.out _))
        | (go_at_call 35; with_reducible exact Calls.bw (Nat.le_refl _) _ (HRH.out _))
        | (go_at_call 13; with_reducible exact Calls.bw (Nat.le_refl _) _ (HV.out _))
        | (go_at_call 36; with_reducible exact Calls.bw (Nat.le_refl _) _ (HRV.out _))
        | (go_at_call 15; with_reducible exact Calls.bw (Nat.le_refl _) _ (HZ1.out _))
        | (go_at_call 15; with_reducible exact Calls.bw (Nat.le_refl _) _ (HZ2.out _))
        | (go_at_call 37; with_reducible exact Calls.bw (Nat.le_refl _) _ (HRZ1.out _))
        | (go_at_call 37; with_reducible exact Calls.bw (Nat.le_refl _) _ (HRZ2.out _))))
      refine wpQuiet_nil ?_
      rintro w' ⟨z, rfl⟩
      clear x1 x2
      go_wp2_with fail
      all_goals refine bodyPost_ret (by simp [results, Tryd.results20, go_sem]; rfl) rfl ?_
      all_goals exact ⟨rfl, bt HBE.out z.ok⟩
end Go.Proofs.YtkcebbidmlnmmaaDoor
