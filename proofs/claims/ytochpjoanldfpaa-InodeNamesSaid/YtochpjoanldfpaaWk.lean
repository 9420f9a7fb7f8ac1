/- What is counted: its bytes, and back. -/
import Derived.Test.YtochpjoanldfpaaWh
namespace Go.Proofs.Ytochpjoanldfpaa
open Go.RowKit
attribute [local go_sem] idx7_0 idx7_1 idx7_2 idx7_3 idx7_4 idx7_5 idx7_6 idx2_0 idx2_1
set_option maxHeartbeats 2000000 in
theorem mnumbers_any (b : Nat) (w : World) : Calls Try.prog 40 #[.pointer (some ⟨b, 0, none⟩)] w fun e w' => e = .returned (.agg #[.pointer (some ⟨b, 0, none⟩), .pointer (some ⟨b, 1, none⟩)]) ∧ Below w.heap.size w w' := by
  go_enter Try.func40, Try.ntmps40
  go_wp2
  go_still_tail 7, (by kernel_rfl)
  change wpList _ _ _ _ _ (w.alloc _).drew
  go_wp2
  refine bodyPost_ret (by simp [results, Try.results40, go_sem]; rfl) rfl ?_
  exact ⟨rfl, ((Below.refl _ _).alloc (Nat.le_refl _) _).drew⟩
def metL (x y : Int) : List UInt8 := 109 :: (wordL x ++ wordL y)
def metF (x y : Int) : List UInt8 × Int := if rng 0 2147483647 x && rng 0 2147483647 y then (metL x y, 0) else ([], 4)
set_option maxHeartbeats 4000000 in
theorem encMeta_raw (x y : Int) (w : World) (bx by_ : Bool) (H1 : Hid (rng 0 2147483647 x = bx)) (H2 : Hid (rng 0 2147483647 y = by_)) : Calls Try.prog 27 #[.agg #[.int .i64 x, .int .i64 y]] w (RetS (if bx && by_ then metL x y else []) (if bx && by_ then 0 else 4) w) := by
  obtain ⟨rl, hrl⟩ : ∃ rl, rl = (if bx && by_ then metL x y else []) := ⟨_, rfl⟩
  obtain ⟨re, hre⟩ : ∃ re : Int, re = (if bx && by_ then 0 else 4) := ⟨_, rfl⟩
  rw [← hrl, ← hre]
  have HL := Lib.hid hrl
  have HE := Lib.hid hre
  clear hrl hre
  go_enter Try.func27, Try.ntmps27
  go_wp2_with fail
  refine (mnumbers_any _ _).mono ?_
  rintro e w1 ⟨rfl, hb⟩
  have R := ((RowAt.new w 43 [.int .i64 x, .int .i64 y]).alloc _).next hb
  have ho0 : ((w.alloc (.cells #[.int .i64 x, .int .i64 y] 43)).alloc (.cells #[.int .u8 109] 5)).ownsRow (w.heap.size + 1) 5 1 (.slice (some ⟨w.heap.size + 1, 0, none⟩) 1 1) 1 (([109] : List UInt8).map B8) := by
    have := World.ownsRow_lit (e := 5) (size := 1) (base := w.heap.size + 1) (w.alloc (.cells #[.int .i64 x, .int .i64 y] 43)) #[.int .u8 109] 1 (by simp) (by unfold maxLen; omega) rfl
    simp only [World.size_alloc] at this
    exact this
  have ho := ownsNext ho0 hb
  have hw := bt (below2 w _ _) hb
  have hz : w.heap.size + 1 ≤ w1.heap.size := by have := hb.size; simp at this; omega
  clear hb ho0
  obtain ⟨v0, hv0⟩ : ∃ v, v = Value.slice (some ⟨w.heap.size + 1, 0, none⟩) 1 1 := ⟨_, rfl⟩
  rw [← hv0] at ho ⊢
  clear hv0
  have p0 := R.cell 0
  have p1 := R.cell 1
  simp at p0 p1
  go_wp2_with fail
  refine wp_loop_rounds 3 ?_
  rw [rounds_succ]
  go_wp2_with fail
  refine (within_any _ _ _ _).mono ?_
  rintro e w' ⟨rfl, rfl⟩
  rw [H1.out]
  cases bx
  · go_wp2
    refine bodyPost_ret (by simp [results, Try.results27, go_sem]; rfl) rfl ?_
    exact ⟨by rw [HL.out, HE.out]; rfl, hw⟩
  · go_wp2_with fail
    refine (four_any _ 1 [109] x (w.heap.size + 1) _ (by omega) hz ho).mono ?_
    rintro e w2 ⟨v1, rfl, ho1, hb⟩
    replace R := R.below hb (Nat.lt_succ_self _)
    replace hw := hw.trans (hb.mono (Nat.le_succ _))
    replace hz := Nat.le_trans hz hb.size
    clear hb ho p0 p1
    have p0 := R.cell 0
    have p1 := R.cell 1
    simp at p0 p1
    go_wp2_with fail
    rw [rounds_succ]
    go_wp2_with fail
    refine (within_any _ _ _ _).mono ?_
    rintro e w' ⟨rfl, rfl⟩
    rw [H2.out]
    cases by_
    · go_wp2
      refine bodyPost_ret (by simp [results, Try.results27, go_sem]; rfl) rfl ?_
      exact ⟨by rw [HL.out, HE.out]; rfl, hw⟩
    · go_wp2_with fail
      refine (four_any _ 5 ([109] ++ wordL x) y (w.heap.size + 1) _ (by omega) hz ho1).mono ?_
      rintro e w3 ⟨v2, rfl, ho2, hb⟩
      replace hw := hw.trans (hb.mono (Nat.le_succ _))
      clear hb ho1 p0 p1
      have hc := str_owned ho2
      go_wp2_with fail
      rw [rounds_succ]
      go_wp2
      refine bodyPost_ret (by simp [results, Try.results27, go_sem]; rfl) rfl ?_
      exact ⟨by rw [HL.out, HE.out]; simp [metL], hw⟩
theorem encMeta_any (x y : Int) (r : List UInt8) (E : Int) (w : World) (h : metF x y = (r, E)) : Calls Try.prog 27 #[.agg #[.int .i64 x, .int .i64 y]] w fun e w' => e = .returned (.tuple #[.string ⟨r.toArray⟩, .int .i64 E]) ∧ Below w.heap.size w w' := by
  have := encMeta_raw x y w _ _ (Lib.hid rfl) (Lib.hid rfl)
  unfold metF at h
  split at h
  · rename_i h2
    cases h
    rw [if_pos h2, if_pos h2] at this
    exact this
  · rename_i h2
    cases h
    rw [if_neg h2, if_neg h2] at this
    exact this

def RetM (x y E : Int) (w : World) (e : Ending) (w' : World) : Prop := e = .returned (.tuple #[.agg #[.int .i64 x, .int .i64 y], .int .i64 E]) ∧ Below w.heap.size w w'
set_option maxHeartbeats 4000000 in
theorem decMeta_len (s : ByteArray) (w : World) (h : s.size ≠ 9) : Calls Try.prog 29 #[.string s] w (RetM 0 0 4 w) := by
  have hd : ((s.size : Int) == 9) = false := by simp; omega
  go_enter Try.func29, Try.ntmps29
  go_wp2
  all_goals (first | (exfalso; omega) | skip)
  refine bodyPost_ret (by simp [results, Try.results29, go_sem]; rfl) rfl ?_
  exact ⟨rfl, b1 w _⟩
set_option maxHeartbeats 4000000 in
theorem decMeta_m (s : ByteArray) (w : World) (h : s.size = 9) (hm : bAt s 0 ≠ 109) : Calls Try.prog 29 #[.string s] w (RetM 0 0 4 w) := by
  have h0 : 0 < s.size := by omega
  have hz : (s.size : Int) = 9 := by omega
  have hm2 : ((s[0].toNat : Int) == 109) = false := by
    rw [bAt_get s 0 h0]
    simp
    intro h
    apply hm
    exact UInt8.toNat_inj.1 (by simpa using (by omega : (bAt s 0).toNat = 109))
  go_enter Try.func29, Try.ntmps29
  go_wp2
  all_goals (first | (exfalso; omega) | skip)
  all_goals (refine bodyPost_ret (by simp [results, Try.results29, go_sem]; rfl) rfl ?_)
  all_goals (exact ⟨rfl, b1 w _⟩)
set_option maxHeartbeats 4000000 in
theorem decMeta_9 (s : ByteArray) (w : World) (h : s.size = 9) (hm : bAt s 0 = 109) (bx by_ : Bool) (H1 : Hid (rng 0 2147483647 (numAt s 1) = bx)) (H2 : Hid (rng 0 2147483647 (numAt s 5) = by_)) :
    Calls Try.prog 29 #[.string s] w (RetM (if bx && by_ then numAt s 1 else 0) (if bx && by_ then numAt s 5 else 0) (if bx && by_ then 0 else 4) w) := by
  obtain ⟨rx, hrx⟩ : ∃ rx, rx = (if bx && by_ then numAt s 1 else 0) := ⟨_, rfl⟩
  obtain ⟨ry, hry⟩ : ∃ ry, ry = (if bx && by_ then numAt s 5 else 0) := ⟨_, rfl⟩
  obtain ⟨re, hre⟩ : ∃ re : Int, re = (if bx && by_ then 0 else 4) := ⟨_, rfl⟩
  rw [← hrx, ← hry, ← hre]
  have HX := Lib.hid hrx
  have HY := Lib.hid hry
  have HE := Lib.hid hre
  clear hrx hry hre
  have h0 : 0 < s.size := by omega
  have hz : (s.size : Int) = 9 := by omega
  have hm2 : (s[0].toNat : Int) = 109 := by rw [bAt_get s 0 h0, hm]; rfl
  clear hm
  go_enter Try.func29, Try.ntmps29
  go_wp2_with fail
  refine (mnumbers_any _ _).mono ?_
  rintro e w1 ⟨rfl, hb⟩
  have hw := bt (below2 w _ _) hb
  have Z : RowAt w1 w.heap.size 43 [.int .i64 0, .int .i64 0] := ((RowAt.new w 43 [.int .i64 0, .int .i64 0]).alloc _).next hb
  have R : RowAt w1 (w.heap.size + 1) 43 [.int .i64 0, .int .i64 0] := by
    have := (RowAt.new (w.alloc (.cells #[.int .i64 0, .int .i64 0] 43)) 43 [.int .i64 0, .int .i64 0]).next hb
    simpa only [World.size_alloc] using this
  obtain ⟨C, hC⟩ : ∃ C, C = w.heap.size + 1 := ⟨_, rfl⟩
  rw [← hC] at R ⊢
  have hCl : w.heap.size ≤ C := by omega
  have hCn : w.heap.size ≠ C := by omega
  clear hC hb
  have q := R.cell 0
  have fz := R.free 0
  have z0 := Z.cell 0
  have z1 := Z.cell 1
  have f0 := Z.free 0
  have f1 := Z.free 1
  simp at q z0 z1
  go_wp2_with fail
  refine wp_loop_rounds 3 ?_
  rw [rounds_succ]
  go_wp2_with fail
  refine (inumX_any s 1 _ _ (by omega) (by omega)).mono ?_
  rintro e w' ⟨rfl, rfl⟩
  go_wp2_with fail
  refine (within_any _ _ _ _).mono ?_
  rintro e w' ⟨rfl, rfl⟩
  rw [H1.out]
  clear q fz z0 z1 f0 f1
  replace R := R.set 0 (.int .i64 (numAt s 1))
  replace Z := Z.other 0 (.int .i64 (numAt s 1)) hCn
  replace hw := hw.setCell (p := ⟨C, 0, none⟩) hCl (.int .i64 (numAt s 1))
  simp only [List.set_cons_zero] at R
  generalize hWe : World.setCell _ ⟨C, 0, none⟩ _ = W2 at *
  clear hWe
  have q := R.cell 1
  have fz := R.free 1
  have q0 := R.cell 0
  have z0 := Z.cell 0
  have z1 := Z.cell 1
  have f0 := Z.free 0
  have f1 := Z.free 1
  simp at q q0 z0 z1
  cases bx
  · go_wp2
    refine bodyPost_ret (by simp [results, Try.results29, go_sem, z0, z1]; rfl) rfl ?_
    refine ⟨by rw [HX.out, HY.out, HE.out]; rfl, (hw.setCell (Nat.le_refl _) _).setCell (Nat.le_refl _) _⟩
  · go_wp2_with fail
    rw [rounds_succ]
    go_wp2_with fail
    refine (inumX_any s 5 _ _ (by omega) (by omega)).mono ?_
    rintro e w' ⟨rfl, rfl⟩
    go_wp2_with fail
    refine (within_any _ _ _ _).mono ?_
    rintro e w' ⟨rfl, rfl⟩
    rw [H2.out]
    clear q fz z0 z1 f0 f1 q0
    replace R := R.set 1 (.int .i64 (numAt s 5))
    replace Z := Z.other 1 (.int .i64 (numAt s 5)) hCn
    replace hw := hw.setCell (p := ⟨C, 1, none⟩) hCl (.int .i64 (numAt s 5))
    simp only [List.set_cons_succ, List.set_cons_zero] at R
    generalize hWe : World.setCell _ ⟨C, 1, none⟩ _ = W3 at *
    clear hWe
    have q1 := R.cell 1
    have q0 := R.cell 0
    have z0 := Z.cell 0
    have z1 := Z.cell 1
    have f0 := Z.free 0
    have f1 := Z.free 1
    simp at q0 q1 z0 z1
    cases by_
    · go_wp2
      refine bodyPost_ret (by simp [results, Try.results29, go_sem, z0, z1]; rfl) rfl ?_
      refine ⟨by rw [HX.out, HY.out, HE.out]; rfl, (hw.setCell (Nat.le_refl _) _).setCell (Nat.le_refl _) _⟩
    · go_wp2_with fail
      rw [rounds_succ]
      go_wp2
      refine bodyPost_ret (by simp [results, Try.results29, go_sem, z0, z1]; rfl) rfl ?_
      refine ⟨by rw [HX.out, HY.out, HE.out]; rfl, (hw.setCell (Nat.le_refl _) _).setCell (Nat.le_refl _) _⟩
def decMF (s : ByteArray) : (Int × Int) × Int := if s.size = 9 ∧ bAt s 0 = 109 ∧ (rng 0 2147483647 (numAt s 1) && rng 0 2147483647 (numAt s 5)) = true then ((numAt s 1, numAt s 5), 0) else ((0, 0), 4)
theorem decMeta_any (s : ByteArray) (x y E : Int) (w : World) (h : decMF s = ((x, y), E)) : Calls Try.prog 29 #[.string s] w fun e w' => e = .returned (.tuple #[.agg #[.int .i64 x, .int .i64 y], .int .i64 E]) ∧ Below w.heap.size w w' := by
  unfold decMF at h
  by_cases h1 : s.size = 9
  · by_cases h2 : bAt s 0 = 109
    · have := decMeta_9 s w h1 h2 _ _ (Lib.hid rfl) (Lib.hid rfl)
      split at h
      · rename_i h3
        cases h
        rw [if_pos h3.2.2, if_pos h3.2.2, if_pos h3.2.2] at this
        exact this
      · rename_i h3
        cases h
        have h4 : ¬ (rng 0 2147483647 (numAt s 1) && rng 0 2147483647 (numAt s 5)) = true := fun h => h3 ⟨h1, h2, h⟩
        rw [if_neg h4, if_neg h4, if_neg h4] at this
        exact this
    · rw [if_neg (fun x => h2 x.2.1)] at h
      cases h
      exact decMeta_m s w h1 h2
  · rw [if_neg (fun x => h1 x.1)] at h
    cases h
    exact decMeta_len s w h1
end Go.Proofs.Ytochpjoanldfpaa
