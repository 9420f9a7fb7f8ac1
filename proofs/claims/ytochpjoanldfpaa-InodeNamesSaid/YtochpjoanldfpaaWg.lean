/- What bytes are; whose a handle is. -/
import Derived.Test.YtochpjoanldfpaaWf
namespace Go.Proofs.Ytochpjoanldfpaa
open Go.RowKit
attribute [local go_sem] idx7_0 idx7_1 idx7_2 idx7_3 idx7_4 idx7_5 idx7_6 idx2_0 idx2_1
def bAt (s : ByteArray) (a : Nat) : UInt8 := s.data.getD a 0
def numAt (s : ByteArray) (a : Nat) : Int := numF (bAt s a) (bAt s (a + 1)) (bAt s (a + 2)) (bAt s (a + 3))
theorem bAt_get (s : ByteArray) (a : Nat) (h : a < s.size) : s[a] = bAt s a := by
  unfold bAt
  show s.data[a] = _
  have h' : a < s.data.size := h
  simp only [Array.getD, dif_pos h']
  rfl
theorem bAt_extract (s : ByteArray) (a b i : Nat) (h : a + i < b) (hb : b ≤ s.size) : bAt (s.extract a b) i = bAt s (a + i) := by
  have h1 : i < (s.extract a b).size := by simp; omega
  rw [← bAt_get _ i h1, ← bAt_get s (a + i) (by omega)]
  simp [ByteArray.getElem_extract]
theorem numAt_extract (s : ByteArray) (a b : Nat) (h : a + 4 ≤ b) (hb : b ≤ s.size) : numAt (s.extract a b) 0 = numAt s a := by
  unfold numAt
  rw [bAt_extract s a b 0 (by omega) hb, bAt_extract s a b (0 + 1) (by omega) hb, bAt_extract s a b (0 + 2) (by omega) hb, bAt_extract s a b (0 + 3) (by omega) hb]
  simp
theorem inumX_any (s : ByteArray) (a b : Nat) (w : World) (h : a + 4 ≤ b) (hb : b ≤ s.size) : Calls Try.prog 38 #[.string (s.extract a b)] w fun e w' => e = .returned (.int .i64 (numAt s a)) ∧ w = w' := by
  have hz : 4 ≤ (s.extract a b).size := by simp; omega
  refine (inumber_any _ w hz).mono fun e w' ⟨h1, h2⟩ => ⟨?_, h2⟩
  rw [h1, bAt_get _ 0, bAt_get _ 1, bAt_get _ 2, bAt_get _ 3, ← numAt_extract s a b h hb]
  rfl
theorem numX_any (s : ByteArray) (a b : Nat) (w : World) (h : a + 4 ≤ b) (hb : b ≤ s.size) : Calls Try.prog 39 #[.string (s.extract a b)] w fun e w' => e = .returned (.int .i64 (numAt s a)) ∧ Below w.heap.size w w' := by
  have hz : 4 ≤ (s.extract a b).size := by simp; omega
  refine (number_any _ w hz).mono fun e w' ⟨h1, h2⟩ => ⟨?_, h2⟩
  rw [h1, bAt_get _ 0, bAt_get _ 1, bAt_get _ 2, bAt_get _ 3, ← numAt_extract s a b h hb]
  rfl
def decF (s : ByteArray) : Att := ⟨(bAt s 0).toNat, numAt s 1, numAt s 5, numAt s 9, numAt s 13, numAt s 17, numAt s 21, numAt s 25⟩
def decodeF (s : ByteArray) : Att × Int := if s.size = 29 ∧ mayF (decF s) then (decF s, 0) else (Att.zero, 4)

set_option maxHeartbeats 4000000 in
theorem decode_len (s : ByteArray) (w : World) (h : s.size ≠ 29) : Calls Try.prog 22 #[.string s] w (RetA (Att.zero, 4) w) := by
  have hd : ((s.size : Int) == 29) = false := by simp; omega
  go_enter Try.func22, Try.ntmps22
  go_wp2
  all_goals (first | (exfalso; omega) | skip)
  refine bodyPost_ret (by simp [results, Try.results22, go_sem]; rfl) rfl ?_
  exact retA_mk rfl (b1 w _)
set_option maxHeartbeats 4000000 in
theorem decode_29 (s : ByteArray) (w : World) (h : s.size = 29) : Calls Try.prog 22 #[.string s] w (RetA (decodeF s) w) := by
  have hd : ((s.size : Int) == 29) = true := by simp; omega
  have h0 : 0 < s.size := by omega
  have hz : (s.size : Int) = 29 := by omega
  have e0 := bAt_get s 0 h0
  have H0 := Lib.hid e0
  have HS := Lib.hid h
  clear e0
  go_enter Try.func22, Try.ntmps22
  go_wp2_with fail
  refine (numbers_any _ _).mono ?_
  rintro e w1 ⟨rfl, hb⟩
  have hw1 := bt (below2 w _ _) hb
  have Z : RowAt w1 w.heap.size 23 (Att.cells Att.zero) := ((RowAt.new w 23 (Att.cells Att.zero)).alloc _).next hb
  have R : RowAt w1 (w.heap.size + 1) 23 (Att.cells ⟨(s[0]).toNat, 0, 0, 0, 0, 0, 0, 0⟩) := by
    have := (RowAt.new (w.alloc (.cells (Att.cells Att.zero).toArray 23)) 23 (Att.cells ⟨(s[0]).toNat, 0, 0, 0, 0, 0, 0, 0⟩)).next hb
    simpa only [World.size_alloc] using this
  clear hb
  simp only [Att.cells, Att.zero] at R Z
  obtain ⟨C, hC⟩ : ∃ C, C = w.heap.size + 1 := ⟨_, rfl⟩
  rw [← hC] at R ⊢
  have hCl : w.heap.size ≤ C := by omega
  have hCn : w.heap.size ≠ C := by omega
  clear hC
  go_wp2_with fail
  refine wp_loop_rounds 8 ?_
  have q := R.cell 1
  have fz := R.free 1
  simp at q
  rw [rounds_succ]
  go_wp2_with fail
  refine (inumX_any s 1 _ _ (by omega) (by omega)).mono ?_
  rintro e w' ⟨rfl, rfl⟩
  go_wp2_with fail
  replace R := R.set 1 (.int .i64 (numAt s 1))
  replace Z := Z.other 1 (.int .i64 (numAt s 1)) hCn
  replace hw1 := hw1.setCell (p := ⟨C, 1, none⟩) hCl (.int .i64 (numAt s 1))
  simp only [List.set_cons_succ, List.set_cons_zero] at R
  clear q fz
  obtain ⟨w2, hwe⟩ : ∃ w', w' = w1.setCell ⟨C, 1, none⟩ (.int .i64 (numAt s 1)) := ⟨_, rfl⟩
  rw [← hwe] at R Z hw1 ⊢
  clear hwe
  have q := R.cell 2
  have fz := R.free 2
  simp at q
  rw [rounds_succ]
  go_wp2_with fail
  refine (inumX_any s 5 _ _ (by omega) (by omega)).mono ?_
  rintro e w' ⟨rfl, rfl⟩
  go_wp2_with fail
  replace R := R.set 2 (.int .i64 (numAt s 5))
  replace Z := Z.other 2 (.int .i64 (numAt s 5)) hCn
  replace hw1 := hw1.setCell (p := ⟨C, 2, none⟩) hCl (.int .i64 (numAt s 5))
  simp only [List.set_cons_succ, List.set_cons_zero] at R
  clear q fz
  obtain ⟨w3, hwe⟩ : ∃ w', w' = w2.setCell ⟨C, 2, none⟩ (.int .i64 (numAt s 5)) := ⟨_, rfl⟩
  rw [← hwe] at R Z hw1 ⊢
  clear hwe
  have q := R.cell 3
  have fz := R.free 3
  simp at q
  rw [rounds_succ]
  go_wp2_with fail
  refine (inumX_any s 9 _ _ (by omega) (by omega)).mono ?_
  rintro e w' ⟨rfl, rfl⟩
  go_wp2_with fail
  replace R := R.set 3 (.int .i64 (numAt s 9))
  replace Z := Z.other 3 (.int .i64 (numAt s 9)) hCn
  replace hw1 := hw1.setCell (p := ⟨C, 3, none⟩) hCl (.int .i64 (numAt s 9))
  simp only [List.set_cons_succ, List.set_cons_zero] at R
  clear q fz
  obtain ⟨w4, hwe⟩ : ∃ w', w' = w3.setCell ⟨C, 3, none⟩ (.int .i64 (numAt s 9)) := ⟨_, rfl⟩
  rw [← hwe] at R Z hw1 ⊢
  clear hwe
  have q := R.cell 4
  have fz := R.free 4
  simp at q
  rw [rounds_succ]
  go_wp2_with fail
  refine (inumX_any s 13 _ _ (by omega) (by omega)).mono ?_
  rintro e w' ⟨rfl, rfl⟩
  go_wp2_with fail
  replace R := R.set 4 (.int .i64 (numAt s 13))
  replace Z := Z.other 4 (.int .i64 (numAt s 13)) hCn
  replace hw1 := hw1.setCell (p := ⟨C, 4, none⟩) hCl (.int .i64 (numAt s 13))
  simp only [List.set_cons_succ, List.set_cons_zero] at R
  clear q fz
  obtain ⟨w5, hwe⟩ : ∃ w', w' = w4.setCell ⟨C, 4, none⟩ (.int .i64 (numAt s 13)) := ⟨_, rfl⟩
  rw [← hwe] at R Z hw1 ⊢
  clear hwe
  have q := R.cell 5
  have fz := R.free 5
  simp at q
  rw [rounds_succ]
  go_wp2_with fail
  refine (inumX_any s 17 _ _ (by omega) (by omega)).mono ?_
  rintro e w' ⟨rfl, rfl⟩
  go_wp2_with fail
  replace R := R.set 5 (.int .i64 (numAt s 17))
  replace Z := Z.other 5 (.int .i64 (numAt s 17)) hCn
  replace hw1 := hw1.setCell (p := ⟨C, 5, none⟩) hCl (.int .i64 (numAt s 17))
  simp only [List.set_cons_succ, List.set_cons_zero] at R
  clear q fz
  obtain ⟨w6, hwe⟩ : ∃ w', w' = w5.setCell ⟨C, 5, none⟩ (.int .i64 (numAt s 17)) := ⟨_, rfl⟩
  rw [← hwe] at R Z hw1 ⊢
  clear hwe
  have q := R.cell 6
  have fz := R.free 6
  simp at q
  rw [rounds_succ]
  go_wp2_with fail
  refine (inumX_any s 21 _ _ (by omega) (by omega)).mono ?_
  rintro e w' ⟨rfl, rfl⟩
  go_wp2_with fail
  replace R := R.set 6 (.int .i64 (numAt s 21))
  replace Z := Z.other 6 (.int .i64 (numAt s 21)) hCn
  replace hw1 := hw1.setCell (p := ⟨C, 6, none⟩) hCl (.int .i64 (numAt s 21))
  simp only [List.set_cons_succ, List.set_cons_zero] at R
  clear q fz
  obtain ⟨w7, hwe⟩ : ∃ w', w' = w6.setCell ⟨C, 6, none⟩ (.int .i64 (numAt s 21)) := ⟨_, rfl⟩
  rw [← hwe] at R Z hw1 ⊢
  clear hwe
  have q := R.cell 7
  have fz := R.free 7
  simp at q
  rw [rounds_succ]
  go_wp2_with fail
  refine (inumX_any s 25 _ _ (by omega) (by omega)).mono ?_
  rintro e w' ⟨rfl, rfl⟩
  go_wp2_with fail
  replace R := R.set 7 (.int .i64 (numAt s 25))
  replace Z := Z.other 7 (.int .i64 (numAt s 25)) hCn
  replace hw1 := hw1.setCell (p := ⟨C, 7, none⟩) hCl (.int .i64 (numAt s 25))
  simp only [List.set_cons_succ, List.set_cons_zero] at R
  clear q fz
  obtain ⟨w8, hwe⟩ : ∃ w', w' = w7.setCell ⟨C, 7, none⟩ (.int .i64 (numAt s 25)) := ⟨_, rfl⟩
  rw [← hwe] at R Z hw1 ⊢
  clear hwe
  rw [rounds_succ]
  have c0 := R.cell 0
  have c1 := R.cell 1
  have c2 := R.cell 2
  have c3 := R.cell 3
  have c4 := R.cell 4
  have c5 := R.cell 5
  have c6 := R.cell 6
  have c7 := R.cell 7
  simp at c0 c1 c2 c3 c4 c5 c6 c7
  go_wp2_with fail
  refine (may_any _ _ _ _ _ _ _ _ _).mono ?_
  rintro e w9 ⟨rfl, hb⟩
  clear c0 c1 c2 c3 c4 c5 c6 c7
  replace hw1 := bt hw1 hb
  replace R := R.next hb
  replace Z := Z.next hb
  clear hb
  have hF : decF s = ⟨(s[0]).toNat, numAt s 1, numAt s 5, numAt s 9, numAt s 13, numAt s 17, numAt s 21, numAt s 25⟩ := by rw [H0.out]; rfl
  have HF := Lib.hid hF
  clear hF
  obtain ⟨mb, hmb⟩ : ∃ mb, mb = mayF ⟨(s[0]).toNat, numAt s 1, numAt s 5, numAt s 9, numAt s 13, numAt s 17, numAt s 21, numAt s 25⟩ := ⟨_, rfl⟩
  rw [← hmb]
  have HMB := Lib.hid hmb
  clear hmb
  have c0 := R.cell 0
  have c1 := R.cell 1
  have c2 := R.cell 2
  have c3 := R.cell 3
  have c4 := R.cell 4
  have c5 := R.cell 5
  have c6 := R.cell 6
  have c7 := R.cell 7
  have a0 := Z.cell 0
  have a1 := Z.cell 1
  have a2 := Z.cell 2
  have a3 := Z.cell 3
  have a4 := Z.cell 4
  have a5 := Z.cell 5
  have a6 := Z.cell 6
  have a7 := Z.cell 7
  have f0 := Z.free 0
  have f1 := Z.free 1
  have f2 := Z.free 2
  have f3 := Z.free 3
  have f4 := Z.free 4
  have f5 := Z.free 5
  have f6 := Z.free 6
  have f7 := Z.free 7
  simp at c0 c1 c2 c3 c4 c5 c6 c7 a0 a1 a2 a3 a4 a5 a6 a7
  clear R Z
  cases mb
  all_goals go_wp2
  all_goals (refine bodyPost_ret (by simp [results, Try.results22, go_sem, a0, a1, a2, a3, a4, a5, a6, a7]; rfl) rfl ?_)
  all_goals (refine retA_mk2 ?_ w.heap.size hw1 (Nat.le_refl _) _ _ _ _ _ _ _ _)
  · unfold decodeF
    rw [HF.out, ← HMB.out]
    simp [Att.zero]
  · unfold decodeF
    rw [HF.out, ← HMB.out, HS.out]
    simp
theorem decode_any (s : ByteArray) (w : World) : Calls Try.prog 22 #[.string s] w (RetA (decodeF s) w) := by
  by_cases h : s.size = 29
  · exact decode_29 s w h
  · have : decodeF s = (Att.zero, 4) := by unfold decodeF; rw [if_neg (fun x => h x.1)]
    rw [this]; exact decode_len s w h
end Go.Proofs.Ytochpjoanldfpaa
