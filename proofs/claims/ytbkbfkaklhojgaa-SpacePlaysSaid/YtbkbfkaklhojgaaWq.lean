/- The document's turn, Settle, Back, Count. -/
import Derived.Test.YtbkbfkaklhojgaaWp
namespace Go.Proofs.Ytbkbfkaklhojgaa
open Go.RowKit Go.Shelf
def turnR (k : Nat) (f : Nat → Nat) (a c : Nat) : Nat → Nat := fun i => if i < k then (if f i = 3 then a else if f i = 2 then c else f i) else f i
theorem turnR_zero (f : Nat → Nat) (a c : Nat) : turnR 0 f a c = f := by funext i; unfold turnR; rw [if_neg (by omega)]
theorem turnR_ge (f : Nat → Nat) (a c k : Nat) : turnR k f a c k = f k := by unfold turnR; rw [if_neg (by omega)]
theorem turnR_next (f : Nat → Nat) (a c k : Nat) : upd (turnR k f a c) k (if f k = 3 then a else if f k = 2 then c else f k) = turnR (k + 1) f a c := by
  funext i
  unfold upd turnR
  by_cases e : i = k
  · subst e; rw [if_pos rfl, if_pos (show i < i + 1 by omega)]
  · rw [if_neg e]
    by_cases h : i < k
    · rw [if_pos h, if_pos (show i < k + 1 by omega)]
    · rw [if_neg h, if_neg (by omega)]
theorem upd_same (f : Nat → Nat) (k : Nat) : upd f k (f k) = f := by
  funext i; unfold upd
  by_cases e : i = k
  · subst e; rw [if_pos rfl]
  · rw [if_neg e]
def TuI (w : World) (q g N : Nat) (last : Int) (f : Nat → Nat) (a c : Nat) (i : Value) (W : World) : Prop := ∃ k : Nat, k ≤ N ∧ i = .int .i64 k ∧ XI W q g N last (turnR k f a c) ∧ Fr (QG q g) w W
set_option maxHeartbeats 1000000 in
theorem turn_any (w : World) (q g N : Nat) (last : Int) (f : Nat → Nat) (h : XI w q g N last f) (h4 : ∀ i, f i < 4) (hN : N ≤ 8192) (a c : Nat) (ha : eN a = a) (hc : eN c = c) :
    Calls Try.prog 34 #[.pointer (some ⟨q, 0, none⟩), .int .i64 a, .int .i64 c] w fun e w' => e = .returned (.tuple #[]) ∧ XI w' q g N last (turnR N f a c) ∧ Fr (QG q g) w w' := by
  have HX := Lib.hid h
  have H4 := Lib.hid h4
  have HA := Lib.hid ha
  have HC := Lib.hid hc
  clear h h4 ha hc
  go_enter Try.func34, Try.ntmps34
  go_wp2_with fail
  go_loopw [6] (fun i wr => TuI w q g N last f a c i wr) (fun i _ => N - (intOf i).toNat)
  case atStart => exact ⟨0, by omega, rfl, by rw [turnR_zero]; exact HX.out, Fr.refl _ _⟩
  case round =>
    obtain ⟨k, hk, rfl, hx, hf⟩ := hrel
    have HXk := Lib.hid hx
    have HF := Lib.hid hf
    obtain ⟨cap, c0, hc1, hc2⟩ := hx.c0
    clear hx hf
    by_cases hlt : k < N
    · have hlt' : (k : Int) < (N : Int) := by omega
      have k0 : (0 : Int) ≤ (k : Int) := by omega
      have c1 := HXk.out.at k hlt
      have f1 := HXk.out.freeg k
      have h4k := H4.out k
      have HNX := Lib.hid (turnR_next f a c k)
      rw [turnR_ge] at c1
      by_cases h3 : f k = 3
      · rw [h3, show eN 3 = 2 from rfl] at c1
        rw [if_pos h3] at HNX
        have HS := Lib.hid (HXk.out.set k a hlt)
        rw [HA.out, HNX.out] at HS
        go_wp2_with fail
        go_roundw
        case rel => exact ⟨k + 1, by omega, by go_num, HS.out, HF.out.trans (qg_set _ _ _ _ _)⟩
        case measure => simp [intOf]; omega
      · by_cases h2 : f k = 2
        · rw [h2, show eN 2 = 3 from rfl] at c1
          rw [if_neg h3, if_pos h2] at HNX
          have HS := Lib.hid (HXk.out.set k c hlt)
          rw [HC.out, HNX.out] at HS
          go_wp2_with fail
          go_roundw
          case rel => exact ⟨k + 1, by omega, by go_num, HS.out, HF.out.trans (qg_set _ _ _ _ _)⟩
          case measure => simp [intOf]; omega
        · have q1 : ¬ eN (f k) = 2 := fun e => h3 ((eN_2 h4k).1 e)
          have q2 : ¬ eN (f k) = 3 := fun e => h2 ((eN_3 h4k).1 e)
          obtain ⟨y, hy⟩ : ∃ y, y = eN (f k) := ⟨_, rfl⟩
          rw [← hy] at c1 q1 q2
          have hb1 : (y == 2) = false := by simpa using q1
          have hb2 : (y == 3) = false := by simpa using q2
          clear hy
          rw [if_neg h3, if_neg h2] at HNX
          have HS : Hid (XI wr q g N last (turnR (k + 1) f a c)) := Lib.hid (by
            have e1 := HNX.out
            rw [show f k = turnR k f a c k from (turnR_ge f a c k).symm, upd_same] at e1
            rw [← e1]; exact HXk.out)
          go_wp2_with fail
          go_roundw
          case rel => exact ⟨k + 1, by omega, by go_num, HS.out, HF.out⟩
          case measure => simp [intOf]; omega
    · obtain rfl : k = N := by omega
      have hge : decide ((k : Int) < (k : Int)) = false := by simp
      go_wp2_with fail
      go_end0
      exact ⟨rfl, HXk.out, HF.out⟩
theorem rsettle_any (w : World) (q g N : Nat) (last : Int) (f : Nat → Nat) (h : XI w q g N last f) (h4 : ∀ i, f i < 4) (hN : N ≤ 8192) (h0 : f 0 = 1) (h1 : f 1 = 1) :
    Calls Try.prog 29 #[.pointer (some ⟨q, 0, none⟩)] w fun e w' => e = .returned (.tuple #[]) ∧ XI w' q g N last (stF N f) ∧ Fr (QG q g) w w' := by
  go_enter Try.func29, Try.ntmps29
  go_wp2_with fail
  refine (turn_any w q g N last f h h4 hN 0 1 rfl rfl).mono ?_
  rintro e w1 ⟨rfl, hx, hf⟩
  go_wp2_with fail
  go_end0
  exact ⟨rfl, hx.congr (fun k hk => by rw [stF_at f h0 h1 k hk]; unfold turnR; rw [if_pos hk]), hf⟩
theorem rback_any (w : World) (q g N : Nat) (last : Int) (f : Nat → Nat) (h : XI w q g N last f) (h4 : ∀ i, f i < 4) (hN : N ≤ 8192) (h0 : f 0 = 1) (h1 : f 1 = 1) :
    Calls Try.prog 30 #[.pointer (some ⟨q, 0, none⟩)] w fun e w' => e = .returned (.tuple #[]) ∧ XI w' q g N last (bkF N f) ∧ Fr (QG q g) w w' := by
  go_enter Try.func30, Try.ntmps30
  go_wp2_with fail
  refine (turn_any w q g N last f h h4 hN 1 0 rfl rfl).mono ?_
  rintro e w1 ⟨rfl, hx, hf⟩
  go_wp2_with fail
  go_end0
  exact ⟨rfl, hx.congr (fun k hk => by rw [bkF_at f h0 h1 k hk]; unfold turnR; rw [if_pos hk]), hf⟩
theorem eN_inj {s t : Nat} (_hs : s < 4) (_ht : t < 4) (h : eN s = eN t) : s = t := by
  unfold eN at h
  repeat (split at h; try omega)
  all_goals omega
set_option maxHeartbeats 1000000 in
theorem count_any (w : World) (q g N : Nat) (last : Int) (f : Nat → Nat) (h : XI w q g N last f) (h4 : ∀ i, f i < 4) (hN : N ≤ 8192) (j : Nat) (hj : j < 4) (z : Int) (hz : z = eN j) :
    Calls Try.prog 31 #[.pointer (some ⟨q, 0, none⟩), .int .i64 z] w fun e w' => e = .returned (.int .i64 (cnt N f j)) ∧ w' = w := by
  have HX := Lib.hid h
  have H4 := Lib.hid h4
  have HZ := Lib.hid hz
  obtain ⟨cap, c0, hc1, hc2⟩ := h.c0
  clear h h4 hz
  go_enter Try.func31, Try.ntmps31
  go_wp2_with fail
  go_loopw [5, 6] (fun t i wr => ∃ k : Nat, k ≤ N ∧ t = .int .i64 (cnt k f j) ∧ i = .int .i64 k ∧ wr = w) (fun _ i _ => N - (intOf i).toNat)
  case atStart => exact ⟨0, by omega, rfl, rfl, rfl⟩
  case round =>
    obtain ⟨k, hk, rfl, rfl, hw⟩ := hrel
    subst hw
    by_cases hlt : k < N
    · have hlt' : (k : Int) < (N : Int) := by omega
      have k0 : (0 : Int) ≤ (k : Int) := by omega
      have c1 := HX.out.at k hlt
      have hb := cnt_bd f j k
      have HN1 : Hid (cnt (k + 1) f j = cnt k f j + if f k = j then 1 else 0) := Lib.hid rfl
      obtain ⟨C, hC⟩ : ∃ C, C = cnt k f j := ⟨_, rfl⟩
      rw [← hC] at HN1 hb ⊢
      clear hC
      obtain ⟨y, hy⟩ : ∃ y, y = eN (f k) := ⟨_, rfl⟩
      rw [← hy] at c1
      by_cases he : f k = j
      · have hyz : (y == z) = true := by simp; rw [hy, HZ.out, he]
        rw [if_pos he] at HN1
        clear hy he
        go_wp2_with fail
        go_roundw
        case rel => exact ⟨k + 1, by omega, by rw [HN1.out], by go_num, trivial⟩
        case measure => simp [intOf]; omega
      · have hyz : (y == z) = false := by
          simp; rw [hy, HZ.out]; exact fun e => he (eN_inj (H4.out k) hj e)
        rw [if_neg he, Int.add_zero] at HN1
        clear hy he
        go_wp2_with fail
        go_roundw
        case rel => exact ⟨k + 1, by omega, by rw [HN1.out], by go_num, trivial⟩
        case measure => simp [intOf]; omega
    · obtain rfl : k = N := by omega
      have hge : decide ((k : Int) < (k : Int)) = false := by simp
      go_wp2_with fail
      all_goals refine bodyPost_ret (by simp [results, Try.results31, go_sem]; rfl) rfl ?_
      all_goals exact ⟨rfl, rfl⟩
end Go.Proofs.Ytbkbfkaklhojgaa
