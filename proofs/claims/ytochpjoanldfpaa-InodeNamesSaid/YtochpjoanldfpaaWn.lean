/- DecodeMeta's twin; InodeBytes walked: true at every input. -/
import Derived.Test.YtochpjoanldfpaaWm
namespace Go.Proofs.Ytochpjoanldfpaa
open Go.RowKit
set_option maxHeartbeats 4000000 in
theorem decMR_len (s : ByteArray) (w : World) (h : s.size ≠ 9) : Calls Try.prog 30 #[.string s] w (RetM 0 0 4 w) := by
  have hd : ((s.size : Int) == 9) = false := by simp; omega
  go_enter Try.func30, Try.ntmps30
  go_wp2
  all_goals (first | (exfalso; omega) | skip)
  refine bodyPost_ret (by simp [results, Try.results30, go_sem]; rfl) rfl ?_
  exact ⟨rfl, b1 w _⟩
set_option maxHeartbeats 4000000 in
theorem decMR_m (s : ByteArray) (w : World) (h : s.size = 9) (hm : bAt s 0 ≠ 109) : Calls Try.prog 30 #[.string s] w (RetM 0 0 4 w) := by
  have h0 : 0 < s.size := by omega
  have hz : (s.size : Int) = 9 := by omega
  have hm2 : ((s[0].toNat : Int) == 109) = false := by
    rw [bAt_get s 0 h0]
    simp
    intro h
    apply hm
    exact UInt8.toNat_inj.1 (by simpa using (by omega : (bAt s 0).toNat = 109))
  go_enter Try.func30, Try.ntmps30
  go_wp2
  all_goals (first | (exfalso; omega) | skip)
  all_goals (refine bodyPost_ret (by simp [results, Try.results30, go_sem]; rfl) rfl ?_)
  all_goals (exact ⟨rfl, b1 w _⟩)
set_option maxHeartbeats 8000000 in
theorem decMR_9 (s : ByteArray) (w : World) (h : s.size = 9) (hm : bAt s 0 = 109) (bx by_ : Bool) (H1 : Hid (rng 0 2147483647 (numAt s 1) = bx)) (H2 : Hid (rng 0 2147483647 (numAt s 5) = by_)) :
    Calls Try.prog 30 #[.string s] w (RetM (if bx && by_ then numAt s 1 else 0) (if bx && by_ then numAt s 5 else 0) (if bx && by_ then 0 else 4) w) := by
  obtain ⟨rx, hrx⟩ : ∃ rx, rx = (if bx && by_ then numAt s 1 else 0) := ⟨_, rfl⟩
  obtain ⟨ry, hry⟩ : ∃ ry, ry = (if bx && by_ then numAt s 5 else 0) := ⟨_, rfl⟩
  obtain ⟨re, hre⟩ : ∃ re : Int, re = (if bx && by_ then 0 else 4) := ⟨_, rfl⟩
  rw [← hrx, ← hry, ← hre]
  have HX := Lib.hid hrx
  have HY := Lib.hid hry
  have HE := Lib.hid hre
  clear hrx hry hre
  have h0 : 0 < s.size := by omega
  have hz : (s.size : Int) = 9 := by omega
  have hm2 : (s[0].toNat : Int) = 109 := by rw [bAt_get s 0 h0, hm]; rfl
  clear hm
  go_enter Try.func30, Try.ntmps30
  go_wp2_with fail
  have Z : RowAt (w.alloc (.cells #[.int .i64 0, .int .i64 0] 37)) w.heap.size 37 [.int .i64 0, .int .i64 0] := RowAt.new w 37 _
  have hw := b1 w (.cells #[.int .i64 0, .int .i64 0] 37)
  replace Z := Z.drew
  replace hw := hw.drew
  refine wp_region_parts (by kernel_rfl) (by kernel_rfl) ?_
  generalize (w.alloc (.cells #[.int .i64 0, .int .i64 0] 37)).drew = W at *
  apply regL_lq W.heap.size
  intro D hD hn
  repeat (apply wpLQ_pin rfl rfl; intro K hK; go_big_quiet_op; (first | go_big_quiet_on | go_big_quiet_call ((go_at_call 39; exact Calls.bd (Nat.le_refl _) hD _ (numX_any s _ _ _ (by omega) (by omega))))); apply And.intro rfl)
  apply wpLQ_loose (NewPtr W.heap.size 37 [.int .i64 0, .int .i64 0]) (newPtr_stable _ _ _) (Nat.le_refl _) hD rfl
  · intro x _
    unfold Runs
    go_simp
    exact newPtr_new x.val 37 [.int .i64 0, .int .i64 0] x.ok.size
  intro u
  simp only [Act.put, List.setIfInBounds_toArray, List.set_cons_succ, List.set_cons_zero]
  apply wpLQ_end (bar_of (by kernel_rfl))
  intro w1 hb hf
  obtain ⟨C, rfl, hCl, R⟩ := Facts.first hf
  clear hf hn hD
  have hCw : w.heap.size ≤ C := by have := hw.size; omega
  have hCn : w.heap.size ≠ C := by have := Z.lt; omega
  replace Z := Z.next hb
  replace hw := bt hw hb
  clear hb hCl
  have q0 := R.cell 0
  have q1 := R.cell 1
  have fz0 := R.free 0
  have fz1 := R.free 1
  simp at q0 q1
  apply regL_one (bar_of (by kernel_rfl)) rfl
  unfold Oper.wp
  go_simp
  apply regL_nil
  clear q0 q1 fz0 fz1
  replace R := (R.set 0 (.int .i64 (numAt s 1))).set 1 (.int .i64 (numAt s 5))
  replace Z := (Z.other 0 (.int .i64 (numAt s 1)) hCn).other 1 (.int .i64 (numAt s 5)) hCn
  replace hw := (hw.setCell (p := ⟨C, 0, none⟩) hCw (.int .i64 (numAt s 1))).setCell (p := ⟨C, 1, none⟩) hCw (.int .i64 (numAt s 5))
  simp only [List.set_cons_succ, List.set_cons_zero] at R
  generalize hWe : World.setCell _ ⟨C, 1, none⟩ _ = W3 at *
  clear hWe
  have q1 := R.cell 1
  have q0 := R.cell 0
  have z0 := Z.cell 0
  have z1 := Z.cell 1
  have f0 := Z.free 0
  have f1 := Z.free 1
  simp at q0 q1 z0 z1
  go_wp2_with fail
  refine (count_any _ _).mono ?_
  rintro e w1 ⟨rfl, rfl⟩
  rw [H1.out]
  cases bx
  · go_wp2
    refine bodyPost_ret (by simp [results, Try.results30, go_sem, z0, z1]; rfl) rfl ?_
    refine ⟨by rw [HX.out, HY.out, HE.out]; rfl, (hw.setCell (Nat.le_refl _) _).setCell (Nat.le_refl _) _⟩
  · go_wp2_with fail
    refine (count_any _ _).mono ?_
    rintro e w1 ⟨rfl, rfl⟩
    rw [H2.out]
    cases by_
    · go_wp2
      refine bodyPost_ret (by simp [results, Try.results30, go_sem, z0, z1]; rfl) rfl ?_
      refine ⟨by rw [HX.out, HY.out, HE.out]; rfl, (hw.setCell (Nat.le_refl _) _).setCell (Nat.le_refl _) _⟩
    · go_wp2
      refine bodyPost_ret (by simp [results, Try.results30, go_sem, z0, z1]; rfl) rfl ?_
      refine ⟨by rw [HX.out, HY.out, HE.out]; rfl, (hw.setCell (Nat.le_refl _) _).setCell (Nat.le_refl _) _⟩
theorem decMRV (s : ByteArray) (x y E : Int) (w : World) (h : decMF s = ((x, y), E)) : Calls Try.prog 30 #[.string s] w fun e w' => e = .returned (.tuple #[.agg #[.int .i64 x, .int .i64 y], .int .i64 E]) ∧ Below w.heap.size w w' := by
  unfold decMF at h
  by_cases h1 : s.size = 9
  · by_cases h2 : bAt s 0 = 109
    · have := decMR_9 s w h1 h2 _ _ (Lib.hid rfl) (Lib.hid rfl)
      split at h
      · rename_i h3
        cases h
        rw [if_pos h3.2.2, if_pos h3.2.2, if_pos h3.2.2] at this
        exact this
      · rename_i h3
        cases h
        have h4 : ¬ (rng 0 2147483647 (numAt s 1) && rng 0 2147483647 (numAt s 5)) = true := fun h => h3 ⟨h1, h2, h⟩
        rw [if_neg h4, if_neg h4, if_neg h4] at this
        exact this
    · rw [if_neg (fun x => h2 x.2.1)] at h
      cases h
      exact decMR_m s w h1 h2
  · rw [if_neg (fun x => h1 x.1)] at h
    cases h
    exact decMR_len s w h1

theorem mayRV (k m l s t c i g : Int) (b : Bool) (w : World) (h : mayF ⟨k, m, l, s, t, c, i, g⟩ = b) : Calls Try.prog 24 #[.agg #[.int .u8 k, .int .i64 m, .int .i64 l, .int .i64 s, .int .i64 t, .int .i64 c, .int .i64 i, .int .i64 g]] w fun e w' => e = .returned (.bool b) ∧ Below w.heap.size w w' := by
  subst h; exact mayR_any k m l s t c i g w
set_option maxHeartbeats 8000000 in
theorem bytes_raw (k m l s t c i g X Y K M L S T C I G E1 E2 E3 E4 U V : Int) (sx tx : ByteArray) (r1 r3 : List UInt8) (bm : Bool) (w : World) (hs : (sx.size : Int) ≤ 1000) (ht : (tx.size : Int) ≤ 1000)
    (HM : Hid (mayF ⟨k, m, l, s, t, c, i, g⟩ = bm)) (H1 : Hid (encodeF ⟨k, m, l, s, t, c, i, g⟩ = (r1, E1))) (H2 : Hid (decodeF sx = (⟨K, M, L, S, T, C, I, G⟩, E2))) (H3 : Hid (metF X Y = (r3, E3))) (H4 : Hid (decMF tx = ((U, V), E4))) :
    Calls Try.prog 5 #[.agg #[.int .u8 k, .int .i64 m, .int .i64 l, .int .i64 s, .int .i64 t, .int .i64 c, .int .i64 i, .int .i64 g], .agg #[.int .i64 X, .int .i64 Y], .string sx, .string tx] w fun e w' => e = .returned (.bool true) ∧ Below w.heap.size w w' := by
  have hs2 : decide ((1000 : Int) < (sx.size : Int)) = false := by simp; omega
  have ht2 : decide ((1000 : Int) < (tx.size : Int)) = false := by simp; omega
  go_enter Try.func5, Try.ntmps5
  have R : RowAt ((w.alloc (.cells #[.int .u8 k, .int .i64 m, .int .i64 l, .int .i64 s, .int .i64 t, .int .i64 c, .int .i64 i, .int .i64 g] 23)).alloc (.cells #[.int .i64 X, .int .i64 Y] 37)) w.heap.size 23 [.int .u8 k, .int .i64 m, .int .i64 l, .int .i64 s, .int .i64 t, .int .i64 c, .int .i64 i, .int .i64 g] := (RowAt.new w 23 _).alloc _
  have O : RowAt ((w.alloc (.cells #[.int .u8 k, .int .i64 m, .int .i64 l, .int .i64 s, .int .i64 t, .int .i64 c, .int .i64 i, .int .i64 g] 23)).alloc (.cells #[.int .i64 X, .int .i64 Y] 37)) (w.heap.size + 1) 37 [.int .i64 X, .int .i64 Y] := by
    have := RowAt.new (w.alloc (.cells #[.int .u8 k, .int .i64 m, .int .i64 l, .int .i64 s, .int .i64 t, .int .i64 c, .int .i64 i, .int .i64 g] 23)) 37 [.int .i64 X, .int .i64 Y]
    simpa only [World.size_alloc] using this
  have hw := below2 w (.cells #[.int .u8 k, .int .i64 m, .int .i64 l, .int .i64 s, .int .i64 t, .int .i64 c, .int .i64 i, .int .i64 g] 23) (.cells #[.int .i64 X, .int .i64 Y] 37)
  go_wp2_with fail
  generalize (w.alloc (.cells #[.int .u8 k, .int .i64 m, .int .i64 l, .int .i64 s, .int .i64 t, .int .i64 c, .int .i64 i, .int .i64 g] 23)).alloc (.cells #[.int .i64 X, .int .i64 Y] 37) = W0 at *
  obtain ⟨ba, hba⟩ : ∃ ba, ba = w.heap.size := ⟨_, rfl⟩
  obtain ⟨bo, hbo⟩ : ∃ bo, bo = w.heap.size + 1 := ⟨_, rfl⟩
  rw [← hbo] at O ⊢
  rw [← hba] at R ⊢
  clear hba hbo
  refine (encodeV k m l s t c i g r1 E1 _ H1.out).mono ?_
  rintro e w2 ⟨rfl, hb⟩
  replace R := R.next hb
  replace O := O.next hb
  replace hw := bt hw hb
  clear hb
  have p0 := R.cell 0
  have p1 := R.cell 1
  have p2 := R.cell 2
  have p3 := R.cell 3
  have p4 := R.cell 4
  have p5 := R.cell 5
  have p6 := R.cell 6
  have p7 := R.cell 7
  simp at p0 p1 p2 p3 p4 p5 p6 p7
  go_wp2_with fail
  refine (encodeRV k m l s t c i g r1 E1 _ H1.out).mono ?_
  rintro e w3 ⟨rfl, hb⟩
  clear p0 p1 p2 p3 p4 p5 p6 p7
  replace R := R.next hb
  replace O := O.next hb
  replace hw := bt hw hb
  clear hb
  go_wp2_with fail
  refine (decodeV sx K M L S T C I G E2 _ H2.out).mono ?_
  rintro e w4 ⟨rfl, hb⟩
  replace R := R.next hb
  replace O := O.next hb
  replace hw := bt hw hb
  clear hb
  go_wp2_with fail
  refine (decodeRV sx K M L S T C I G E2 _ H2.out).mono ?_
  rintro e w5 ⟨rfl, hb⟩
  replace R := (R.alloc _).next hb
  replace O := (O.alloc _).next hb
  have A := (RowAt.new w4 23 [.int .u8 K, .int .i64 M, .int .i64 L, .int .i64 S, .int .i64 T, .int .i64 C, .int .i64 I, .int .i64 G]).next hb
  replace hw := btA hw hb
  clear hb
  obtain ⟨b4, hb4⟩ : ∃ b4, b4 = w4.heap.size := ⟨_, rfl⟩
  rw [← hb4] at A ⊢
  clear hb4
  go_wp2_with fail
  replace R := (R.alloc (.cells #[.int .u8 K, .int .i64 M, .int .i64 L, .int .i64 S, .int .i64 T, .int .i64 C, .int .i64 I, .int .i64 G] 23)).drew
  replace O := (O.alloc (.cells #[.int .u8 K, .int .i64 M, .int .i64 L, .int .i64 S, .int .i64 T, .int .i64 C, .int .i64 I, .int .i64 G] 23)).drew
  replace A := (A.alloc (.cells #[.int .u8 K, .int .i64 M, .int .i64 L, .int .i64 S, .int .i64 T, .int .i64 C, .int .i64 I, .int .i64 G] 23)).drew
  have B := (RowAt.new w5 23 [.int .u8 K, .int .i64 M, .int .i64 L, .int .i64 S, .int .i64 T, .int .i64 C, .int .i64 I, .int .i64 G]).drew
  replace hw := (bA hw (.cells #[.int .u8 K, .int .i64 M, .int .i64 L, .int .i64 S, .int .i64 T, .int .i64 C, .int .i64 I, .int .i64 G] 23)).drew
  obtain ⟨b5, hb5⟩ : ∃ b5, b5 = w5.heap.size := ⟨_, rfl⟩
  rw [← hb5] at B ⊢
  clear hb5
  cases bm
  all_goals (
    refine wp_region_parts (by kernel_rfl) (by kernel_rfl) ?_
    generalize (w5.alloc (.cells #[.int .u8 K, .int .i64 M, .int .i64 L, .int .i64 S, .int .i64 T, .int .i64 C, .int .i64 I, .int .i64 G] 23)).drew = W at *
    apply regL_lq W.heap.size
    intro D hD hn
    have p0 := fun x : Bd W.heap.size W D => (R.next x.ok).cell 0
    have p1 := fun x : Bd W.heap.size W D => (R.next x.ok).cell 1
    have p2 := fun x : Bd W.heap.size W D => (R.next x.ok).cell 2
    have p3 := fun x : Bd W.heap.size W D => (R.next x.ok).cell 3
    have p4 := fun x : Bd W.heap.size W D => (R.next x.ok).cell 4
    have p5 := fun x : Bd W.heap.size W D => (R.next x.ok).cell 5
    have p6 := fun x : Bd W.heap.size W D => (R.next x.ok).cell 6
    have p7 := fun x : Bd W.heap.size W D => (R.next x.ok).cell 7
    have a0 := fun x : Bd W.heap.size W D => (A.next x.ok).cell 0
    have a1 := fun x : Bd W.heap.size W D => (A.next x.ok).cell 1
    have a2 := fun x : Bd W.heap.size W D => (A.next x.ok).cell 2
    have a3 := fun x : Bd W.heap.size W D => (A.next x.ok).cell 3
    have a4 := fun x : Bd W.heap.size W D => (A.next x.ok).cell 4
    have a5 := fun x : Bd W.heap.size W D => (A.next x.ok).cell 5
    have a6 := fun x : Bd W.heap.size W D => (A.next x.ok).cell 6
    have a7 := fun x : Bd W.heap.size W D => (A.next x.ok).cell 7
    have b0 := fun x : Bd W.heap.size W D => (B.next x.ok).cell 0
    have b1 := fun x : Bd W.heap.size W D => (B.next x.ok).cell 1
    have b2 := fun x : Bd W.heap.size W D => (B.next x.ok).cell 2
    have b3 := fun x : Bd W.heap.size W D => (B.next x.ok).cell 3
    have b4 := fun x : Bd W.heap.size W D => (B.next x.ok).cell 4
    have b5 := fun x : Bd W.heap.size W D => (B.next x.ok).cell 5
    have b6 := fun x : Bd W.heap.size W D => (B.next x.ok).cell 6
    have b7 := fun x : Bd W.heap.size W D => (B.next x.ok).cell 7
    simp at p0 p1 p2 p3 p4 p5 p6 p7 a0 a1 a2 a3 a4 a5 a6 a7 b0 b1 b2 b3 b4 b5 b6 b7
    repeat (first | (apply wpLQ_skip rfl) | (apply wpLQ_pin rfl rfl; intro K hK; go_big_quiet_op; (first | go_big_quiet_on | go_big_quiet_call (first | (go_at_call 19; exact Calls.bd (Nat.le_refl _) hD _ (mayV _ _ _ _ _ _ _ _ _ _ HM.out)) | (go_at_call 24; exact Calls.bd (Nat.le_refl _) hD _ (mayRV _ _ _ _ _ _ _ _ _ _ HM.out)) | (go_at_call 25; exact Calls.bd (Nat.le_refl _) hD _ (key_any _ _)) | (go_at_call 26; exact Calls.bd (Nat.le_refl _) hD _ (keyR_any _ _)))); apply And.intro rfl))
    apply wpLQ_nil (by simp)
    intro w6 hb _
    clear p0 p1 p2 p3 p4 p5 p6 p7
    clear a0 a1 a2 a3 a4 a5 a6 a7
    clear b0 b1 b2 b3 b4 b5 b6 b7
    clear hn hD D R A B
    replace O := O.next hb
    replace hw := bt hw hb
    clear hb
    have o0 := O.cell 0
    have o1 := O.cell 1
    simp at o0 o1
    go_wp2_with fail
    refine (encMeta_any X Y r3 E3 _ H3.out).mono ?_
    rintro e w7 ⟨rfl, hb⟩
    clear o0 o1
    replace O := O.next hb
    replace hw := bt hw hb
    clear hb
    have o0 := O.cell 0
    have o1 := O.cell 1
    simp at o0 o1
    go_wp2_with fail
    refine (metRV X Y r3 E3 _ H3.out).mono ?_
    rintro e w8 ⟨rfl, hb⟩
    clear o0 o1 O
    replace hw := bt hw hb
    clear hb
    go_wp2_with fail
    refine (decMeta_any tx U V E4 _ H4.out).mono ?_
    rintro e w9 ⟨rfl, hb⟩
    replace hw := bt hw hb
    clear hb
    go_wp2_with fail
    refine (decMRV tx U V E4 _ H4.out).mono ?_
    rintro e w10 ⟨rfl, hb⟩
    have A := (RowAt.new w9 43 [.int .i64 U, .int .i64 V]).next hb
    replace hw := btA hw hb
    clear hb
    obtain ⟨b9, hb9⟩ : ∃ b9, b9 = w9.heap.size := ⟨_, rfl⟩
    rw [← hb9] at A ⊢
    clear hb9
    have Alt := A.lt
    have a0 := A.cell 0
    have a1 := A.cell 1
    simp at a0 a1
    go_wp2_with fail
    refine (awake_any _).mono ?_
    rintro e w11 ⟨rfl, hb⟩
    go_wp2
    go_ret
    exact ⟨rfl, btA hw hb⟩)

theorem bytes_any (k m l s t c i g X Y : Int) (sx tx : ByteArray) (w : World) : Calls Try.prog 5 #[.agg #[.int .u8 k, .int .i64 m, .int .i64 l, .int .i64 s, .int .i64 t, .int .i64 c, .int .i64 i, .int .i64 g], .agg #[.int .i64 X, .int .i64 Y], .string sx, .string tx] w fun e w' => e = .returned (.bool true) ∧ Below w.heap.size w w' := by
  by_cases hs : 1000 < (sx.size : Int)
  · have hs2 : decide ((1000 : Int) < (sx.size : Int)) = true := by simp; omega
    go_enter Try.func5, Try.ntmps5
    go_wp2_with fail
    refine (awake_any _).mono ?_
    rintro e w1 ⟨rfl, hb⟩
    go_wp2
    go_ret
    exact ⟨rfl, bt (below2 w _ _) hb⟩
  · by_cases ht : 1000 < (tx.size : Int)
    · have hs2 : decide ((1000 : Int) < (sx.size : Int)) = false := by simp; omega
      have ht2 : decide ((1000 : Int) < (tx.size : Int)) = true := by simp; omega
      go_enter Try.func5, Try.ntmps5
      go_wp2_with fail
      refine (awake_any _).mono ?_
      rintro e w1 ⟨rfl, hb⟩
      go_wp2
      go_ret
      exact ⟨rfl, bt (below2 w _ _) hb⟩
    · exact bytes_raw k m l s t c i g X Y _ _ _ _ _ _ _ _ _ _ _ _ _ _ sx tx _ _ _ w (by omega) (by omega) (Lib.hid rfl) (Lib.hid rfl) (Lib.hid rfl) (Lib.hid rfl) (Lib.hid rfl)
end Go.Proofs.Ytochpjoanldfpaa
