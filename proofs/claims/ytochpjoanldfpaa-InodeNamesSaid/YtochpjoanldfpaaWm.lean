/- The document's twins: Key, Encode, EncodeMeta, Decode, DecodeMeta. -/
import Derived.Test.YtochpjoanldfpaaSe
import Derived.Test.YtochpjoanldfpaaWk
import Derived.Deep.RegionHeld3
namespace Go.Proofs.Ytochpjoanldfpaa
open Go.RowKit
theorem str_app (x y : List UInt8) : (⟨x.toArray⟩ : ByteArray) ++ ⟨y.toArray⟩ = ⟨(x ++ y).toArray⟩ := by
  rw [← ByteArray.append_eq]
  ext1
  simp [ByteArray.append]
theorem wordL_len (n : Int) : (wordL n).length = 4 := rfl
set_option maxHeartbeats 4000000 in
theorem encR_yes (k m l s t c i g : Int) (w : World) (h : mayF ⟨k, m, l, s, t, c, i, g⟩ = true) : Calls Try.prog 21 #[.agg #[.int .u8 k, .int .i64 m, .int .i64 l, .int .i64 s, .int .i64 t, .int .i64 c, .int .i64 i, .int .i64 g]] w (RetS (encL ⟨k, m, l, s, t, c, i, g⟩) 0 w) := by
  have H := Lib.hid h
  have hk8 : ([by8 k].map B8) = [Value.int .u8 k] := by
    simp only [mayF, decide_eq_true_eq] at h
    simp only [List.map_cons, List.map_nil, by8_val]
    rw [show k % 256 = k by omega]
  have Hk := Lib.hid hk8
  clear h hk8
  go_enter Try.func21, Try.ntmps21
  go_wp2_with fail
  refine (mayR_any _ _ _ _ _ _ _ _ _).mono ?_
  rintro e w1 ⟨rfl, hb⟩
  rw [H.out]
  have R := (RowAt.new w 23 (Att.cells ⟨k, m, l, s, t, c, i, g⟩)).next hb
  have hw := bt (b1 w _) hb
  clear hb
  obtain ⟨b, hbe⟩ : ∃ b, b = w.heap.size := ⟨_, rfl⟩
  rw [← hbe] at R ⊢
  clear hbe
  go_wp2_with fail
  refine wp_region_bw w1.heap.size (by kernel_rfl) (by kernel_rfl) ?_
  have hwl := wordL_len
  have p1 := fun x : Bw w1.heap.size w1 => (R.next x.ok).cell 1
  have p2 := fun x : Bw w1.heap.size w1 => (R.next x.ok).cell 2
  have p3 := fun x : Bw w1.heap.size w1 => (R.next x.ok).cell 3
  have p4 := fun x : Bw w1.heap.size w1 => (R.next x.ok).cell 4
  simp [Att.cells] at p1 p2 p3 p4
  repeat (go_big_quiet_step ((go_at_call 37; exact Calls.bw (Nat.le_refl _) _ (word_any _ _))))
  refine wpQuiet_nil ?_
  rintro w' ⟨x, rfl⟩
  rw [str_app, str_app, str_app]
  replace R := R.next x.ok
  replace hw := bt hw x.ok
  obtain ⟨w2, hw2⟩ : ∃ w2, w2 = x.val := ⟨_, rfl⟩
  rw [← hw2] at hw R ⊢
  clear hw2 p1 p2 p3 p4 x
  go_wp2_with fail
  refine wp_region_parts (by kernel_rfl) (by kernel_rfl) ?_
  replace hw := hw.drew
  replace R := R.drew
  obtain ⟨w3, hw3⟩ : ∃ w3, w3 = w2.drew := ⟨_, rfl⟩
  rw [← hw3] at hw R ⊢
  clear hw3
  apply regL_lq w3.heap.size
  intro D hD hn
  have p0 := fun x : Bd w3.heap.size w3 D => (R.next x.ok).cell 0
  have p5 := fun x : Bd w3.heap.size w3 D => (R.next x.ok).cell 5
  have p6 := fun x : Bd w3.heap.size w3 D => (R.next x.ok).cell 6
  have p7 := fun x : Bd w3.heap.size w3 D => (R.next x.ok).cell 7
  simp [Att.cells] at p0 p5 p6 p7
  apply wpLQ_pin rfl rfl; intro K hK
  go_big_quiet_op
  go_big_quiet_on
  apply And.intro rfl
  apply wpLQ_pin rfl rfl; intro K hK
  go_big_quiet_op
  go_big_quiet_on
  apply And.intro rfl
  apply wpLQ_loose (NewRow 5 [.int .u8 k]) (newRow_stable _ _) (Nat.le_refl _) hD rfl
  · intro x _
    unfold Runs
    go_simp
    exact newRow_new x.val 5 [.int .u8 k]
  intro u
  simp only [Act.put, List.setIfInBounds_toArray, List.set_cons_succ, List.set_cons_zero]
  apply wpLQ_at (.string ⟨[by8 k].toArray⟩) (Nat.le_refl _) hD rfl
  · intro x hx
    obtain ⟨b, rfl, hb⟩ := Facts.head hx (anc_of (by kernel_rfl))
    unfold Runs
    go_simp
    rw [run_string_of_slice (P := Try.prog) x.val 58 5 9 Try.underlying58 Try.underlying5 Try.underlying9 _ 1 1 [by8 k] (by rw [Hk.out]; exact SliceAt.row hb)]
    exact ⟨rfl, Below.refl _ _⟩
  simp only [Act.put, List.setIfInBounds_toArray, List.set_cons_succ, List.set_cons_zero]
  repeat (apply wpLQ_pin rfl rfl; intro K hK; go_big_quiet_op; (first | go_big_quiet_on | go_big_quiet_call ((go_at_call 37; exact Calls.bd (Nat.le_refl _) hD _ (word_any _ _)))); apply And.intro rfl)
  apply wpLQ_nil (by simp)
  intro w4 hb3 _
  rw [str_app, str_app, str_app, str_app]
  go_wp2
  refine bodyPost_ret (by simp [results, Try.results21, go_sem]; rfl) rfl ?_
  exact ⟨by simp [encL], bt hw hb3⟩
set_option maxHeartbeats 4000000 in
theorem encR_no (k m l s t c i g : Int) (w : World) (h : mayF ⟨k, m, l, s, t, c, i, g⟩ = false) : Calls Try.prog 21 #[.agg #[.int .u8 k, .int .i64 m, .int .i64 l, .int .i64 s, .int .i64 t, .int .i64 c, .int .i64 i, .int .i64 g]] w (RetS [] 4 w) := by
  have H := Lib.hid h
  clear h
  go_enter Try.func21, Try.ntmps21
  go_wp2_with fail
  refine (mayR_any _ _ _ _ _ _ _ _ _).mono ?_
  rintro e w1 ⟨rfl, hb⟩
  rw [H.out]
  go_wp2
  refine bodyPost_ret (by simp [results, Try.results21, go_sem]; rfl) rfl ?_
  exact ⟨rfl, bt (b1 w _) hb⟩
theorem encodeRV (k m l s t c i g : Int) (r : List UInt8) (E : Int) (w : World) (h : encodeF ⟨k, m, l, s, t, c, i, g⟩ = (r, E)) : Calls Try.prog 21 #[.agg #[.int .u8 k, .int .i64 m, .int .i64 l, .int .i64 s, .int .i64 t, .int .i64 c, .int .i64 i, .int .i64 g]] w fun e w' => e = .returned (.tuple #[.string ⟨r.toArray⟩, .int .i64 E]) ∧ Below w.heap.size w w' := by
  unfold encodeF at h
  split at h
  · cases h; rename_i h2; exact encR_yes k m l s t c i g w h2
  · cases h; rename_i h2; exact encR_no k m l s t c i g w (by simpa using h2)

set_option maxHeartbeats 4000000 in
theorem metR_raw (x y : Int) (w : World) (bx by_ : Bool) (H1 : Hid (rng 0 2147483647 x = bx)) (H2 : Hid (rng 0 2147483647 y = by_)) : Calls Try.prog 28 #[.agg #[.int .i64 x, .int .i64 y]] w (RetS (if bx && by_ then metL x y else []) (if bx && by_ then 0 else 4) w) := by
  obtain ⟨rl, hrl⟩ : ∃ rl, rl = (if bx && by_ then metL x y else []) := ⟨_, rfl⟩
  obtain ⟨re, hre⟩ : ∃ re : Int, re = (if bx && by_ then 0 else 4) := ⟨_, rfl⟩
  rw [← hrl, ← hre]
  have HL := Lib.hid hrl
  have HE := Lib.hid hre
  clear hrl hre
  go_enter Try.func28, Try.ntmps28
  go_wp2_with fail
  refine (count_any _ _).mono ?_
  rintro e w1 ⟨rfl, rfl⟩
  rw [H1.out]
  cases bx
  · go_wp2
    refine bodyPost_ret (by simp [results, Try.results28, go_sem]; rfl) rfl ?_
    exact ⟨by rw [HL.out, HE.out]; rfl, b1 w _⟩
  · go_wp2_with fail
    refine (count_any _ _).mono ?_
    rintro e w1 ⟨rfl, rfl⟩
    rw [H2.out]
    cases by_
    · go_wp2
      refine bodyPost_ret (by simp [results, Try.results28, go_sem]; rfl) rfl ?_
      exact ⟨by rw [HL.out, HE.out]; rfl, b1 w _⟩
    · have R := RowAt.new w 37 [.int .i64 x, .int .i64 y]
      have hw := b1 w (.cells #[.int .i64 x, .int .i64 y] 37)
      obtain ⟨b, hbe⟩ : ∃ b, b = w.heap.size := ⟨_, rfl⟩
      go_wp2_with fail
      rw [← hbe] at R ⊢
      clear hbe
      generalize w.alloc (.cells #[.int .i64 x, .int .i64 y] 37) = W at *
      refine wp_region_bw W.heap.size (by kernel_rfl) (by kernel_rfl) ?_
      have hwl := wordL_len
      have p0 := fun x : Bw W.heap.size W => (R.next x.ok).cell 0
      have p1 := fun x : Bw W.heap.size W => (R.next x.ok).cell 1
      simp at p0 p1
      repeat (go_big_quiet_step ((go_at_call 37; exact Calls.bw (Nat.le_refl _) _ (word_any _ _))))
      refine wpQuiet_nil ?_
      rintro w' ⟨z, rfl⟩
      go_wp2
      refine bodyPost_ret (by simp [results, Try.results28, go_sem]; rfl) rfl ?_
      exact ⟨by rw [HL.out, HE.out]; rfl, bt hw z.ok⟩
theorem metRV (x y : Int) (r : List UInt8) (E : Int) (w : World) (h : metF x y = (r, E)) : Calls Try.prog 28 #[.agg #[.int .i64 x, .int .i64 y]] w fun e w' => e = .returned (.tuple #[.string ⟨r.toArray⟩, .int .i64 E]) ∧ Below w.heap.size w w' := by
  have := metR_raw x y w _ _ (Lib.hid rfl) (Lib.hid rfl)
  unfold metF at h
  split at h
  · rename_i h2
    cases h
    rw [if_pos h2, if_pos h2] at this
    exact this
  · rename_i h2
    cases h
    rw [if_neg h2, if_neg h2] at this
    exact this

set_option maxHeartbeats 4000000 in
theorem decR_len (s : ByteArray) (w : World) (h : s.size ≠ 29) : Calls Try.prog 23 #[.string s] w (RetA (Att.zero, 4) w) := by
  have hd : ((s.size : Int) == 29) = false := by simp; omega
  go_enter Try.func23, Try.ntmps23
  go_wp2
  all_goals (first | (exfalso; omega) | skip)
  refine bodyPost_ret (by simp [results, Try.results23, go_sem]; rfl) rfl ?_
  exact ⟨rfl, b1 w _⟩

theorem make7 (w : World) : (Instr.makeSlice 61 (.int .i64 7) (.int .i64 7)).run Try.prog w = .ok (.slice (some ⟨w.heap.size, 0, none⟩) 7 7) (w.alloc (.cells #[.int .i64 0, .int .i64 0, .int .i64 0, .int .i64 0, .int .i64 0, .int .i64 0, .int .i64 0] 3)) := by kernel_rfl
set_option maxHeartbeats 8000000 in
theorem decR_29 (s : ByteArray) (w : World) (h : s.size = 29) (bm : Bool) (HM : Hid (mayF (decF s) = bm)) : Calls Try.prog 23 #[.string s] w (RetA (if bm then (decF s, 0) else (Att.zero, 4)) w) := by
  obtain ⟨r, hr⟩ : ∃ r, r = (if bm then (decF s, (0 : Int)) else (Att.zero, 4)) := ⟨_, rfl⟩
  rw [← hr]
  have HR := Lib.hid hr
  clear hr
  have h0 : 0 < s.size := by omega
  have hz : (s.size : Int) = 29 := by omega
  have hmk := make7
  go_enter Try.func23, Try.ntmps23
  go_wp2_with fail
  have Z : RowAt ((w.alloc (.cells #[.int .u8 0, .int .i64 0, .int .i64 0, .int .i64 0, .int .i64 0, .int .i64 0, .int .i64 0, .int .i64 0] 23)).alloc (.cells #[.int .i64 0, .int .i64 0, .int .i64 0, .int .i64 0, .int .i64 0, .int .i64 0, .int .i64 0] 3)) w.heap.size 23 [.int .u8 0, .int .i64 0, .int .i64 0, .int .i64 0, .int .i64 0, .int .i64 0, .int .i64 0, .int .i64 0] := (RowAt.new w 23 _).alloc _
  have R : RowAt ((w.alloc (.cells #[.int .u8 0, .int .i64 0, .int .i64 0, .int .i64 0, .int .i64 0, .int .i64 0, .int .i64 0, .int .i64 0] 23)).alloc (.cells #[.int .i64 0, .int .i64 0, .int .i64 0, .int .i64 0, .int .i64 0, .int .i64 0, .int .i64 0] 3)) (w.heap.size + 1) 3 [.int .i64 0, .int .i64 0, .int .i64 0, .int .i64 0, .int .i64 0, .int .i64 0, .int .i64 0] := by
    have := RowAt.new (w.alloc (.cells #[.int .u8 0, .int .i64 0, .int .i64 0, .int .i64 0, .int .i64 0, .int .i64 0, .int .i64 0, .int .i64 0] 23)) 3 [.int .i64 0, .int .i64 0, .int .i64 0, .int .i64 0, .int .i64 0, .int .i64 0, .int .i64 0]
    simpa only [World.size_alloc] using this
  have hw := below2 w (.cells #[.int .u8 0, .int .i64 0, .int .i64 0, .int .i64 0, .int .i64 0, .int .i64 0, .int .i64 0, .int .i64 0] 23) (.cells #[.int .i64 0, .int .i64 0, .int .i64 0, .int .i64 0, .int .i64 0, .int .i64 0, .int .i64 0] 3)
  refine wp_loop_rounds 8 ?_
  generalize hW0 : (w.alloc (.cells #[.int .u8 0, .int .i64 0, .int .i64 0, .int .i64 0, .int .i64 0, .int .i64 0, .int .i64 0, .int .i64 0] 23)).alloc (.cells #[.int .i64 0, .int .i64 0, .int .i64 0, .int .i64 0, .int .i64 0, .int .i64 0, .int .i64 0] 3) = v0 at *
  clear hW0
  obtain ⟨C, hC⟩ : ∃ C, C = w.heap.size + 1 := ⟨_, rfl⟩
  rw [← hC] at R ⊢
  have hCl : w.heap.size ≤ C := by omega
  have hCn : w.heap.size ≠ C := by omega
  clear hC
  rw [rounds_succ]
  go_wp2_with fail
  refine (numX_any s 1 _ _ (by omega) (by omega)).mono ?_
  rintro e u0 ⟨rfl, hb⟩
  replace R := R.next hb
  replace Z := Z.next hb
  replace hw := bt hw hb
  clear hb
  have q := R.cell 0
  have fz := R.free 0
  simp at q
  go_wp2_with fail
  replace R := R.set 0 (.int .i64 (numAt s 1))
  replace Z := Z.other 0 (.int .i64 (numAt s 1)) hCn
  replace hw := hw.setCell (p := ⟨C, 0, none⟩) hCl (.int .i64 (numAt s 1))
  simp only [List.set_cons_zero] at R
  clear q fz
  obtain ⟨v1, hwe⟩ : ∃ w', w' = u0.setCell ⟨C, 0, none⟩ (.int .i64 (numAt s 1)) := ⟨_, rfl⟩
  rw [← hwe] at R Z hw ⊢
  clear hwe
  rw [rounds_succ]
  go_wp2_with fail
  refine (numX_any s 5 _ _ (by omega) (by omega)).mono ?_
  rintro e u1 ⟨rfl, hb⟩
  replace R := R.next hb
  replace Z := Z.next hb
  replace hw := bt hw hb
  clear hb
  have q := R.cell 1
  have fz := R.free 1
  simp at q
  go_wp2_with fail
  replace R := R.set 1 (.int .i64 (numAt s 5))
  replace Z := Z.other 1 (.int .i64 (numAt s 5)) hCn
  replace hw := hw.setCell (p := ⟨C, 1, none⟩) hCl (.int .i64 (numAt s 5))
  simp only [List.set_cons_succ, List.set_cons_zero] at R
  clear q fz
  obtain ⟨v2, hwe⟩ : ∃ w', w' = u1.setCell ⟨C, 1, none⟩ (.int .i64 (numAt s 5)) := ⟨_, rfl⟩
  rw [← hwe] at R Z hw ⊢
  clear hwe
  rw [rounds_succ]
  go_wp2_with fail
  refine (numX_any s 9 _ _ (by omega) (by omega)).mono ?_
  rintro e u2 ⟨rfl, hb⟩
  replace R := R.next hb
  replace Z := Z.next hb
  replace hw := bt hw hb
  clear hb
  have q := R.cell 2
  have fz := R.free 2
  simp at q
  go_wp2_with fail
  replace R := R.set 2 (.int .i64 (numAt s 9))
  replace Z := Z.other 2 (.int .i64 (numAt s 9)) hCn
  replace hw := hw.setCell (p := ⟨C, 2, none⟩) hCl (.int .i64 (numAt s 9))
  simp only [List.set_cons_succ, List.set_cons_zero] at R
  clear q fz
  obtain ⟨v3, hwe⟩ : ∃ w', w' = u2.setCell ⟨C, 2, none⟩ (.int .i64 (numAt s 9)) := ⟨_, rfl⟩
  rw [← hwe] at R Z hw ⊢
  clear hwe
  rw [rounds_succ]
  go_wp2_with fail
  refine (numX_any s 13 _ _ (by omega) (by omega)).mono ?_
  rintro e u3 ⟨rfl, hb⟩
  replace R := R.next hb
  replace Z := Z.next hb
  replace hw := bt hw hb
  clear hb
  have q := R.cell 3
  have fz := R.free 3
  simp at q
  go_wp2_with fail
  replace R := R.set 3 (.int .i64 (numAt s 13))
  replace Z := Z.other 3 (.int .i64 (numAt s 13)) hCn
  replace hw := hw.setCell (p := ⟨C, 3, none⟩) hCl (.int .i64 (numAt s 13))
  simp only [List.set_cons_succ, List.set_cons_zero] at R
  clear q fz
  obtain ⟨v4, hwe⟩ : ∃ w', w' = u3.setCell ⟨C, 3, none⟩ (.int .i64 (numAt s 13)) := ⟨_, rfl⟩
  rw [← hwe] at R Z hw ⊢
  clear hwe
  rw [rounds_succ]
  go_wp2_with fail
  refine (numX_any s 17 _ _ (by omega) (by omega)).mono ?_
  rintro e u4 ⟨rfl, hb⟩
  replace R := R.next hb
  replace Z := Z.next hb
  replace hw := bt hw hb
  clear hb
  have q := R.cell 4
  have fz := R.free 4
  simp at q
  go_wp2_with fail
  replace R := R.set 4 (.int .i64 (numAt s 17))
  replace Z := Z.other 4 (.int .i64 (numAt s 17)) hCn
  replace hw := hw.setCell (p := ⟨C, 4, none⟩) hCl (.int .i64 (numAt s 17))
  simp only [List.set_cons_succ, List.set_cons_zero] at R
  clear q fz
  obtain ⟨v5, hwe⟩ : ∃ w', w' = u4.setCell ⟨C, 4, none⟩ (.int .i64 (numAt s 17)) := ⟨_, rfl⟩
  rw [← hwe] at R Z hw ⊢
  clear hwe
  rw [rounds_succ]
  go_wp2_with fail
  refine (numX_any s 21 _ _ (by omega) (by omega)).mono ?_
  rintro e u5 ⟨rfl, hb⟩
  replace R := R.next hb
  replace Z := Z.next hb
  replace hw := bt hw hb
  clear hb
  have q := R.cell 5
  have fz := R.free 5
  simp at q
  go_wp2_with fail
  replace R := R.set 5 (.int .i64 (numAt s 21))
  replace Z := Z.other 5 (.int .i64 (numAt s 21)) hCn
  replace hw := hw.setCell (p := ⟨C, 5, none⟩) hCl (.int .i64 (numAt s 21))
  simp only [List.set_cons_succ, List.set_cons_zero] at R
  clear q fz
  obtain ⟨v6, hwe⟩ : ∃ w', w' = u5.setCell ⟨C, 5, none⟩ (.int .i64 (numAt s 21)) := ⟨_, rfl⟩
  rw [← hwe] at R Z hw ⊢
  clear hwe
  rw [rounds_succ]
  go_wp2_with fail
  refine (numX_any s 25 _ _ (by omega) (by omega)).mono ?_
  rintro e u6 ⟨rfl, hb⟩
  replace R := R.next hb
  replace Z := Z.next hb
  replace hw := bt hw hb
  clear hb
  have q := R.cell 6
  have fz := R.free 6
  simp at q
  go_wp2_with fail
  replace R := R.set 6 (.int .i64 (numAt s 25))
  replace Z := Z.other 6 (.int .i64 (numAt s 25)) hCn
  replace hw := hw.setCell (p := ⟨C, 6, none⟩) hCl (.int .i64 (numAt s 25))
  simp only [List.set_cons_succ, List.set_cons_zero] at R
  clear q fz
  obtain ⟨v7, hwe⟩ : ∃ w', w' = u6.setCell ⟨C, 6, none⟩ (.int .i64 (numAt s 25)) := ⟨_, rfl⟩
  rw [← hwe] at R Z hw ⊢
  clear hwe
  rw [rounds_succ]
  go_wp2_with fail
  have hb0 := bAt_get s 0 h0
  have q0 := R.cell 0
  have q1 := R.cell 1
  have q2 := R.cell 2
  have q3 := R.cell 3
  have q4 := R.cell 4
  have q5 := R.cell 5
  have q6 := R.cell 6
  simp at q0 q1 q2 q3 q4 q5 q6
  have hC7 : C < v7.heap.size := R.lt
  go_region_held3 (fun w' => w'.cell? ⟨C, 0, none⟩ = some (.int .i64 (numAt s 1)) ∧ w'.cell? ⟨C, 1, none⟩ = some (.int .i64 (numAt s 5)) ∧ w'.cell? ⟨C, 2, none⟩ = some (.int .i64 (numAt s 9)) ∧ w'.cell? ⟨C, 3, none⟩ = some (.int .i64 (numAt s 13)) ∧ w'.cell? ⟨C, 4, none⟩ = some (.int .i64 (numAt s 17)) ∧ w'.cell? ⟨C, 5, none⟩ = some (.int .i64 (numAt s 21)) ∧ w'.cell? ⟨C, 6, none⟩ = some (.int .i64 (numAt s 25))) (go_keep) (fail)
  all_goals (
    replace Z := (Z.alloc (.cells #[.int .u8 (bAt s 0).toNat, .int .i64 (numAt s 1), .int .i64 (numAt s 5), .int .i64 (numAt s 9), .int .i64 (numAt s 13), .int .i64 (numAt s 17), .int .i64 (numAt s 21), .int .i64 (numAt s 25)] 23)).drew
    replace hw := (bA hw (.cells #[.int .u8 (bAt s 0).toNat, .int .i64 (numAt s 1), .int .i64 (numAt s 5), .int .i64 (numAt s 9), .int .i64 (numAt s 13), .int .i64 (numAt s 17), .int .i64 (numAt s 21), .int .i64 (numAt s 25)] 23)).drew
    have Y := (RowAt.new v7 23 [.int .u8 (bAt s 0).toNat, .int .i64 (numAt s 1), .int .i64 (numAt s 5), .int .i64 (numAt s 9), .int .i64 (numAt s 13), .int .i64 (numAt s 17), .int .i64 (numAt s 21), .int .i64 (numAt s 25)]).drew
    clear q0 q1 q2 q3 q4 q5 q6 R hb0
    go_wp2_with fail
    refine (mayR_any _ _ _ _ _ _ _ _ _).mono ?_
    rintro e v9 ⟨rfl, hb⟩
    rw [show mayF ⟨(bAt s 0).toNat, numAt s 1, numAt s 5, numAt s 9, numAt s 13, numAt s 17, numAt s 21, numAt s 25⟩ = bm from HM.out]
    replace hw := bt hw hb
    replace Y := Y.next hb
    replace Z := Z.next hb
    clear hb
    obtain ⟨yb, hyb⟩ : ∃ yb, yb = v7.heap.size := ⟨_, rfl⟩
    rw [← hyb] at Y ⊢
    clear hyb
    have c0 := Y.cell 0
    have c1 := Y.cell 1
    have c2 := Y.cell 2
    have c3 := Y.cell 3
    have c4 := Y.cell 4
    have c5 := Y.cell 5
    have c6 := Y.cell 6
    have c7 := Y.cell 7
    have a0 := Z.cell 0
    have a1 := Z.cell 1
    have a2 := Z.cell 2
    have a3 := Z.cell 3
    have a4 := Z.cell 4
    have a5 := Z.cell 5
    have a6 := Z.cell 6
    have a7 := Z.cell 7
    have f0 := Z.free 0
    have f1 := Z.free 1
    have f2 := Z.free 2
    have f3 := Z.free 3
    have f4 := Z.free 4
    have f5 := Z.free 5
    have f6 := Z.free 6
    have f7 := Z.free 7
    simp at c0 c1 c2 c3 c4 c5 c6 c7 a0 a1 a2 a3 a4 a5 a6 a7
    clear Y Z
    cases bm
    · go_wp2
      refine bodyPost_ret (by simp [results, Try.results23, go_sem, a0, a1, a2, a3, a4, a5, a6, a7]; rfl) rfl ?_
      exact retA_mk2 (by rw [HR.out]; rfl) w.heap.size hw (Nat.le_refl _) _ _ _ _ _ _ _ _
    · go_wp2
      refine bodyPost_ret (by simp [results, Try.results23, go_sem, a0, a1, a2, a3, a4, a5, a6, a7]; rfl) rfl ?_
      exact retA_mk2 (by rw [HR.out]; rfl) w.heap.size hw (Nat.le_refl _) _ _ _ _ _ _ _ _)
theorem decR_any (s : ByteArray) (w : World) : Calls Try.prog 23 #[.string s] w (RetA (decodeF s) w) := by
  by_cases h : s.size = 29
  · have := decR_29 s w h _ (Lib.hid rfl)
    unfold decodeF
    by_cases h2 : mayF (decF s) = true
    · rw [if_pos ⟨h, h2⟩]; rw [if_pos h2] at this; exact this
    · rw [if_neg (fun x => h2 x.2)]; rw [if_neg h2] at this; exact this
  · have : decodeF s = (Att.zero, 4) := by unfold decodeF; rw [if_neg (fun x => h x.1)]
    rw [this]; exact decR_len s w h
theorem decodeRV (s : ByteArray) (K M L S T C I G E : Int) (w : World) (h : decodeF s = (⟨K, M, L, S, T, C, I, G⟩, E)) : Calls Try.prog 23 #[.string s] w fun e w' => e = .returned (.tuple #[.agg #[.int .u8 K, .int .i64 M, .int .i64 L, .int .i64 S, .int .i64 T, .int .i64 C, .int .i64 I, .int .i64 G], .int .i64 E]) ∧ Below w.heap.size w w' :=
  (decR_any s w).mono fun e w' ⟨h1, h2⟩ => ⟨by rw [h1, h]; rfl, h2⟩
end Go.Proofs.Ytochpjoanldfpaa
