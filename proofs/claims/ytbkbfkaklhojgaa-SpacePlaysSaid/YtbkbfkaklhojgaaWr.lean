/- The document's New, Take. -/
import Derived.Test.YtbkbfkaklhojgaaWq
namespace Go.Proofs.Ytbkbfkaklhojgaa
open Go.RowKit Go.Shelf
theorem made_ints (N : Nat) : madeCells #[Value.int .i64 0] N = (List.replicate N (Value.int .i64 0)).toArray := by
  apply Array.ext
  · simp [size_madeCells]
  · intro i h1 h2
    simp [madeCells, Nat.mod_one]
theorem make45 (w : World) (N : Nat) (h : N ≤ 8192) : (Instr.makeSlice 45 (.int .i64 N) (.int .i64 N)).run Try.prog w = .ok (.slice (some ⟨w.heap.size, 0, none⟩) N N) (w.alloc (.cells (List.replicate N (Value.int .i64 0)).toArray 3)) := by
  obtain ⟨i, hi, hz, hs, hby⟩ : ∃ i, Try.prog.info? 3 = some i ∧ i.zero = some (.int .i64 0) ∧ i.size = 1 ∧ i.bytes = 8 := ⟨_, rfl, rfl, rfl, rfl⟩
  have := run_makeSlice (P := Try.prog) w 45 3 i (.int .i64 0) Try.underlying45 hi hz .i64 .i64 N N (by omega) (by omega) (by rw [hs]; simp; omega) (by rw [hby]; omega) (by omega)
  rw [this, hs]
  simp only [Int.toNat_natCast, Nat.mul_one]
  rw [show (Value.int .i64 0).cells = #[Value.int .i64 0] from rfl, made_ints]
theorem ref_zero (N : Nat) : List.replicate N (Value.int .i64 0) = refL N (fun _ => 0) := by
  apply List.ext_getElem
  · simp [refL]
  · intro i h1 h2; simp [refL, eN]
set_option maxHeartbeats 1000000 in
theorem rnew_any (w : World) (N : Nat) (h0 : 64 ≤ N) (h1 : N ≤ 8192) :
    Calls Try.prog 16 #[.int .i64 N] w fun e w' => e = .returned (.tuple #[.pointer (some ⟨w.heap.size + 1, 0, none⟩), .int .i64 0]) ∧ XI w' (w.heap.size + 1) w.heap.size N 1 newF ∧ Below w.heap.size w w' := by
  have g1 : decide ((N : Int) < 64) = false := by simp; omega
  have g2 : decide ((N : Int) > 8192) = false := by simp; omega
  have g3 : decide ((8192 : Int) < N) = false := by simp; omega
  have hm := make45 w N h1
  have hr : RowAt (w.alloc (.cells (List.replicate N (Value.int .i64 0)).toArray 3)) w.heap.size 3 (List.replicate N (Value.int .i64 0)) := RowAt.new w 3 _
  have hb : Below w.heap.size w (w.alloc (.cells (List.replicate N (Value.int .i64 0)).toArray 3)) := (Below.refl _ _).alloc (Nat.le_refl _) _
  have hz : (w.alloc (.cells (List.replicate N (Value.int .i64 0)).toArray 3)).heap.size = w.heap.size + 1 := by simp
  generalize w.alloc (.cells (List.replicate N (Value.int .i64 0)).toArray 3) = w1 at *
  obtain ⟨g, hg⟩ : ∃ g, g = w.heap.size := ⟨_, rfl⟩
  rw [← hg] at hm hr hb hz ⊢
  rw [ref_zero] at hr
  have d0 : w1.cell? ⟨g, 0, none⟩ = some (.int .i64 0) := by rw [hr.cell 0]; exact refL_get N _ 0 (by omega)
  have d1 : w1.cell? ⟨g, 1, none⟩ = some (.int .i64 0) := by rw [hr.cell 1]; exact refL_get N _ 1 (by omega)
  have e0 := hr.free 0
  have e1 := hr.free 1
  have k0 : (0 : Int) < (N : Int) := by omega
  have k1 : (1 : Int) < (N : Int) := by omega
  have hr2 := (hr.set 0 (.int .i64 (eN 1))).set 1 (.int .i64 (eN 1))
  rw [refL_set, refL_set, show eN 1 = 1 from rfl] at hr2
  have hz2 : ((w1.setCell ⟨g, 0, none⟩ (.int .i64 1)).setCell ⟨g, 1, none⟩ (.int .i64 1)).heap.size = g + 1 := by simpa using hz
  have hf2 : Fr (· = g) w1 ((w1.setCell ⟨g, 0, none⟩ (.int .i64 1)).setCell ⟨g, 1, none⟩ (.int .i64 1)) := (frSet w1 g 0 _).trans (frSet _ g 1 _)
  have HX : Hid (XI (((w1.setCell ⟨g, 0, none⟩ (.int .i64 1)).setCell ⟨g, 1, none⟩ (.int .i64 1)).alloc (.cells #[.slice (some ⟨g, 0, none⟩) N N, .int .i64 1] 47)) (g + 1) g N 1 newF) := Lib.hid ⟨N, [], by
    have := RowAt.new ((w1.setCell ⟨g, 0, none⟩ (.int .i64 1)).setCell ⟨g, 1, none⟩ (.int .i64 1)) 47 [.slice (some ⟨g, 0, none⟩) N N, .int .i64 1]
    rwa [hz2] at this, by rw [List.append_nil]; exact hr2.alloc _, Nat.le_refl _, by unfold maxLen; omega⟩
  have HB : Hid (Below g w (((w1.setCell ⟨g, 0, none⟩ (.int .i64 1)).setCell ⟨g, 1, none⟩ (.int .i64 1)).alloc (.cells #[.slice (some ⟨g, 0, none⟩) N N, .int .i64 1] 47))) := Lib.hid ((Below.fr hb hf2 (by omega) (fun _ e => Nat.le_of_eq e.symm)).alloc (by omega) _)
  clear hr hb hg hr2 hz2 hf2
  go_enter Try.func16, Try.ntmps16
  go_wp2_with fail
  all_goals refine bodyPost_ret (by simp [results, Try.results16, go_sem]; rfl) rfl ?_
  all_goals exact ⟨rfl, HX.out, HB.out⟩
theorem rnew_not (w : World) (n : Int) (h0 : n < 64 ∨ 8192 < n) :
    Calls Try.prog 16 #[.int .i64 n] w fun e w' => e = .returned (.tuple #[.pointer none, .int .i64 1]) ∧ w' = w := by
  by_cases h1 : n < 64
  · have g1 : decide (n < 64) = true := by simpa using h1
    go_enter Try.func16, Try.ntmps16
    go_wp2
    all_goals refine bodyPost_ret (by simp [results, Try.results16, go_sem]; rfl) rfl ?_
    all_goals exact ⟨rfl, rfl⟩
  · have g1 : decide (n < 64) = false := by simpa using h1
    have g2 : decide (n > 8192) = true := by simp; omega
    have g3 : decide ((8192 : Int) < n) = true := by simp; omega
    go_enter Try.func16, Try.ntmps16
    go_wp2
    all_goals refine bodyPost_ret (by simp [results, Try.results16, go_sem]; rfl) rfl ?_
    all_goals exact ⟨rfl, rfl⟩
theorem take_hit {N r i m : Nat} {f : Nat → Nat} (hr : r < N) (h0 : f 0 = 1) (h1 : f 1 = 1) (hi : 1 ≤ i) (hiN : i ≤ N) (hm : m = (r + i) % N) (hf : f m = 0) (hno : ∀ j, 1 ≤ j → j < i → f ((r + j) % N) ≠ 0) : TakeP N r f (some m) := by
  have hmN : m < N := by rw [hm]; exact Nat.mod_lt _ (by omega)
  have hm2 : 2 ≤ m := by
    have n0 : m ≠ 0 := fun e => by rw [e, h0] at hf; omega
    have n1 : m ≠ 1 := fun e => by rw [e, h1] at hf; omega
    omega
  refine ⟨hm2, hmN, hf, ?_⟩
  by_cases h : r + i < N
  · rw [Nat.mod_eq_of_lt h] at hm
    refine .inl ⟨by omega, fun k k1 k2 k3 => ?_⟩
    have := hno (k - r) (by omega) (by omega)
    rwa [show r + (k - r) = k from by omega, Nat.mod_eq_of_lt (by omega)] at this
  · rw [Nat.mod_eq_sub_mod (by omega), Nat.mod_eq_of_lt (by omega)] at hm
    refine .inr ⟨by omega, fun k k1 k2 k3 => ?_, fun k k1 k2 => ?_⟩
    · have := hno (k - r) (by omega) (by omega)
      rwa [show r + (k - r) = k from by omega, Nat.mod_eq_of_lt (by omega)] at this
    · have := hno (k + N - r) (by omega) (by omega)
      rwa [show r + (k + N - r) = k + N from by omega, Nat.add_mod_right, Nat.mod_eq_of_lt (by omega)] at this
theorem take_miss {N r : Nat} {f : Nat → Nat} (hr : r < N) (hno : ∀ j, 1 ≤ j → j < N + 1 → f ((r + j) % N) ≠ 0) : TakeP N r f none := fun k _ k2 => by
  by_cases h : r < k
  · have := hno (k - r) (by omega) (by omega)
    rwa [show r + (k - r) = k from by omega, Nat.mod_eq_of_lt (by omega)] at this
  · have := hno (k + N - r) (by omega) (by omega)
    rwa [show r + (k + N - r) = k + N from by omega, Nat.add_mod_right, Nat.mod_eq_of_lt (by omega)] at this
def RtI (w : World) (q g N r : Nat) (f : Nat → Nat) (i : Value) (W : World) : Prop := ∃ k : Nat, 1 ≤ k ∧ k ≤ N + 1 ∧ i = .int .i64 k ∧ XI W q g N r f ∧ Fr (QG q g) w W ∧ ∀ j, 1 ≤ j → j < k → f ((r + j) % N) ≠ 0
set_option maxHeartbeats 1000000 in
theorem rtake_any (w : World) (q g N r : Nat) (f : Nat → Nat) (h : XI w q g N r f) (hN0 : 2 ≤ N) (hN : N ≤ 8192) (hr : r < N) (h0 : f 0 = 1) (h1 : f 1 = 1) :
    Calls Try.prog 26 #[.pointer (some ⟨q, 0, none⟩)] w fun e w' => ∃ o, e = .returned (.tuple #[.int .i64 (rN o), .int .i64 (rE o)]) ∧ TakeP N r f o ∧ XI w' q g N (rL r o : Nat) (rF f o) ∧ Fr (QG q g) w w' := by
  have HX := Lib.hid h
  have H0 := Lib.hid h0
  have H1 := Lib.hid h1
  clear h h0 h1
  go_enter Try.func26, Try.ntmps26
  go_wp2_with fail
  go_loopw [4] (fun i wr => RtI w q g N r f i wr) (fun i _ => N + 1 - (intOf i).toNat)
  case atStart => exact ⟨1, by omega, by omega, rfl, HX.out, Fr.refl _ _, fun j a b => by omega⟩
  case round =>
    obtain ⟨k, hk1, hk2, rfl, hx, hf, hno⟩ := hrel
    have HXk := Lib.hid hx
    have HF := Lib.hid hf
    have HNO := Lib.hid hno
    obtain ⟨cap, c0, hc1, hc2⟩ := hx.c0
    have c1 := hx.c1
    clear hx hf hno HX
    by_cases hlt : k ≤ N
    · have hlt' : (k : Int) ≤ (N : Int) := by omega
      have k0 : (0 : Int) ≤ (k : Int) := by omega
      have hNz : ((N : Int) == 0) = false := by simp; omega
      have hNn : (N : Int) ≠ 0 := by omega
      obtain ⟨m, hm⟩ : ∃ m, m = (r + k) % N := ⟨_, rfl⟩
      have hmN : m < N := by rw [hm]; exact Nat.mod_lt _ (by omega)
      have hmod : ((r : Int) + (k : Int)).tmod (N : Int) = (m : Int) := by
        rw [Int.tmod_eq_emod_of_nonneg (by omega), hm]; simp
      have HM := Lib.hid hm
      clear hm
      go_wp2_with fail
      refine wp_region_bw wr.heap.size (by kernel_rfl) (by kernel_rfl) ?_
      have q0 : ∀ x : Bw wr.heap.size wr, x.val.cell? ⟨q, 0, none⟩ = some (.slice (some ⟨g, 0, none⟩) N cap) := fun x => (x.ok.cell HXk.out.ltq).trans c0
      have q1 : ∀ x : Bw wr.heap.size wr, x.val.cell? ⟨q, 1, none⟩ = some (.int .i64 r) := fun x => (x.ok.cell HXk.out.ltq).trans c1
      repeat (go_big_quiet_step (fail))
      refine wpQuiet_nil ?_
      rintro w' ⟨xx, rfl⟩
      clear q0 q1 c0 c1
      have HX2 := Lib.hid (HXk.out.next xx.ok)
      have HF2 : Hid (Fr (QG q g) w xx.val) := Lib.hid (HF.out.trans (Fr.of_below xx.ok))
      generalize xx.val = wy at *
      obtain ⟨cap2, d0, hd1, hd2⟩ := HX2.out.c0
      have d1 := HX2.out.c1
      have d2 := HX2.out.at m hmN
      have e2 := HX2.out.freeg m
      have e1 := HX2.out.freeq 1
      have hqg := HX2.out.ne
      have m0 : (0 : Int) ≤ (m : Int) := by omega
      have m1 : (m : Int) < (N : Int) := by omega
      clear HXk HF hmod
      by_cases hfm : f m = 0
      · have HS := Lib.hid ((HX2.out.set m 2 hmN).setLast (m : Int))
        rw [show eN 2 = 3 from rfl] at HS
        have HTP : Hid (TakeP N r f (some m)) := Lib.hid (take_hit hr H0.out H1.out hk1 hlt HM.out hfm HNO.out)
        rw [hfm, show eN 0 = 0 from rfl] at d2
        clear hfm
        go_wp2_with fail
        all_goals refine bodyPost_ret (by simp [results, Try.results26, go_sem]; rfl) rfl ?_
        all_goals exact ⟨some m, rfl, HTP.out, HS.out, (HF2.out.trans (qg_set _ _ _ _ _)).trans (qg_setq _ _ _ _ _)⟩
      · have q1 : ¬ eN (f m) = 0 := fun e => hfm (eN_0.1 e)
        obtain ⟨y, hy⟩ : ∃ y, y = eN (f m) := ⟨_, rfl⟩
        rw [← hy] at d2 q1
        have hb1 : (y == 0) = false := by simpa using q1
        have HFM := Lib.hid hfm
        clear hy hfm
        go_wp2_with fail
        go_roundw
        case rel =>
          refine ⟨k + 1, by omega, by omega, by go_num, HX2.out, HF2.out, fun j a b => ?_⟩
          by_cases e : j = k
          · subst e; rw [← HM.out]; exact HFM.out
          · exact HNO.out j a (by omega)
        case measure => simp [intOf]; omega
    · obtain rfl : k = N + 1 := by omega
      have hge : decide (((N + 1 : Nat) : Int) ≤ (N : Int)) = false := by simp; omega
      have hge2 : decide ((N : Int) + 1 ≤ (N : Int)) = false := by simp; omega
      have HTP : Hid (TakeP N r f none) := Lib.hid (take_miss hr HNO.out)
      go_wp2_with fail
      all_goals refine bodyPost_ret (by simp [results, Try.results26, go_sem]; rfl) rfl ?_
      all_goals exact ⟨none, rfl, HTP.out, HXk.out, HF.out⟩
end Go.Proofs.Ytbkbfkaklhojgaa
