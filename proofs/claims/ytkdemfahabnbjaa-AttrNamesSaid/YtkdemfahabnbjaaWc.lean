/- Contracts of attr.Mean and of the document's: the bits of the mean, for every slice of at most 1000000 integers. -/
import Derived.Test.YtkdemfahabnbjaaWa
import Derived.Test.YtkdemfahabnbjaaWb
namespace Go.Proofs.Ytkdemfahabnbjaa
open Go.RowKit
attribute [local go_sem] run_store_float

theorem bits_SR {o : Option Nat} {s : Nat} (h : SR o s) (len : Nat) : (∃ r, JFl.D.div s (JFl.fi len) = some r ∧ MeanEnd o len = bitsB r) ∨ (JFl.D.div s (JFl.fi len) = none ∧ MeanEnd o len = JFl.NN) := by
  cases o with
  | none => exact .inr ⟨nan_div _ _ h, rfl⟩
  | some a =>
    obtain rfl : s = a := h
    unfold MeanEnd
    cases hd : JFl.D.div s (JFl.fi len) with
    | none => exact .inr ⟨rfl, by simp [hd, JFl.nnB]⟩
    | some r => exact .inl ⟨r, rfl, by simp [hd, bits_nnB]⟩

set_option maxHeartbeats 1000000 in
theorem mean_any (a : Option Addr) (len cap : Nat) (l : List Int) (w : World) (h : IntsAt .i64 w a len l) (hl : len ≤ 1000000) :
    Calls Try.prog 15 #[.slice a len cap] w (RetU (JFl.meanB l) w) := by
  obtain ⟨hlen, hrow⟩ := h
  have hmean : JFl.meanB l = MeanEnd (JFl.sumB (l.take len)) len := by
    unfold JFl.meanB MeanEnd; rw [List.take_of_length_le (by omega), hlen]
  rw [hmean]
  have HL := Lib.hid hlen
  clear hlen hmean
  have HR := Lib.hid hrow
  clear hrow
  go_enter Try.func15, Try.ntmps15
  go_wp2
  go_loopw [10] (fun i wr => ∃ k : Nat, k ≤ len ∧ i = .int .i64 k ∧ ∃ s, SR (JFl.sumB (l.take k)) s ∧ wr.cell? ⟨w.heap.size, 0, none⟩ = some (.float .f64 s) ∧ wr.frozen? ⟨w.heap.size, 0, none⟩ = false ∧ Below w.heap.size w wr ∧ w.heap.size < wr.heap.size) (fun i _ => len - (intOf i).toNat)
  case atStart => exact ⟨0, Nat.zero_le _, rfl, 0, rfl, by simp [go_sem], by simp [go_sem], (Below.refl _ _).alloc (Nat.le_refl _) _, by simp⟩
  case round =>
    obtain ⟨k, hk, rfl, s, hs, hc, hf, hb, hsz⟩ := hrel
    by_cases hlt : k < len
    · rcases HR.out with h0 | ⟨b, off, rfl, hbs, hcell⟩
      · omega
      have hck : wr.cell? ⟨b, off + k, none⟩ = some (.int .i64 (l.getD k 0)) := by rw [hb.cell hbs]; exact hcell k hlt
      have HS := Lib.hid hs
      clear hcell hs
      go_wp2_with fail
      refine (addc_any _ _ s _ _ hc hf HS.out).mono ?_
      intro e w' hpost
      obtain ⟨rfl, s', h1, h2, h3, h4, h5⟩ := addPost_rel hpost hb (Nat.le_refl _) ⟨_, hc⟩ hf hsz
      have H1 := Lib.hid h1
      clear hpost HS hck h1 hc hf hb hsz
      go_wp2
      go_roundw
      case rel => exact ⟨k + 1, by omega, by go_num, s', by rw [sumB_take l k (by have := HL.out; omega)]; exact H1.out, h2, h3, h4, h5⟩
      case measure => simp [intOf]; omega
    · obtain rfl : k = len := by omega
      rcases bits_SR hs k with ⟨r, h1, h2⟩ | ⟨h1, h2⟩
      · have H2 := Lib.hid h2
        have he : ∀ w, (binOp .quo 42 (.float .f64 s) (.float .f64 (floatOfInt .f64 k))).run Try.prog w = .ok (.float .f64 r) w := fun w => run_float_arith w .quo 42 .f64 _ _ r h1
        clear h1 h2 hs
        go_wp2_with (go_at_call 20; refine (bits_any _ _).mono ?_; rintro e w' ⟨rfl, rfl⟩)
        go_ret
        exact ⟨by rw [H2.out]; rfl, hb⟩
      · have H2 := Lib.hid h2
        have he : ∀ w, (binOp .quo 42 (.float .f64 s) (.float .f64 (floatOfInt .f64 k))).run Try.prog w = .ok (.float .f64 (nanOf w s (floatOfInt .f64 k))) w.drew := fun w => run_float_nan .quo 42 _ _ (.inr rfl) h1 w
        clear h1 h2 hs
        go_wp2_with (go_at_call 20; refine (bits_any _ _).mono ?_; rintro e w' ⟨rfl, rfl⟩)
        go_ret
        exact ⟨by rw [H2.out, ← nan_bits _ (nan_read wr s (floatOfInt .f64 k))]; rfl, hb.drew⟩

/-- The sum as the document reckons it: the first number, then those behind it. -/
def sumR (l : List Int) (k : Nat) : Option Nat := match k, l with
  | 0, _ => some 0
  | _ + 1, [] => some 0
  | k + 1, x :: t => (t.take k).foldl (fun o n => o.bind fun s => JFl.D.add s (JFl.fi n)) (some (JFl.fi x))

theorem sumR_eq (l : List Int) (k : Nat) (h : ∀ x ∈ l, x.natAbs ≤ 2 ^ 63) : sumR l k = JFl.sumB (l.take k) := by
  cases k with
  | zero => simp [sumR, JFl.sumB]
  | succ k =>
    cases l with
    | nil => simp [sumR, JFl.sumB]
    | cons x t => rw [List.take_succ_cons, JFl.sumB_ref (h x (by simp))]; rfl

theorem sumR_one (l : List Int) (h : 0 < l.length) : sumR l 1 = some (JFl.fi (l.getD 0 0)) := by
  cases l with
  | nil => simp at h
  | cons x t => simp [sumR]
theorem sumR_succ (l : List Int) (k : Nat) (h0 : 0 < k) (h : k < l.length) : sumR l (k + 1) = onto (sumR l k) (l.getD k 0) := by
  cases l with
  | nil => simp at h
  | cons x t =>
    obtain ⟨j, rfl⟩ : ∃ j, k = j + 1 := ⟨k - 1, by omega⟩
    have hj : j < t.length := by simpa using h
    simp only [sumR, onto]
    rw [List.take_succ_eq_append_getElem hj, List.foldl_append]
    simp [List.getD_eq_getElem?_getD, hj]

set_option maxHeartbeats 1000000 in
theorem meanR_raw (a : Option Addr) (len cap : Nat) (l : List Int) (w : World) (h : IntsAt .i64 w a len l) (hl : len ≤ 1000000) :
    Calls Try.prog 16 #[.slice a len cap] w (RetU (MeanEnd (sumR l len) len) w) := by
  obtain ⟨hlen, hrow⟩ := h
  have HL := Lib.hid hlen
  clear hlen
  have HR := Lib.hid hrow
  clear hrow
  go_enter Try.func16, Try.ntmps16
  go_wp2
  go_loopw [3, 4] (fun x i wr => ∃ k : Nat, k ≤ len ∧ i = .int .i64 k ∧ ∃ s, SR (sumR l k) s ∧ x = .float .f64 s ∧ Below w.heap.size w wr) (fun _ i _ => len - (intOf i).toNat)
  case atStart => exact ⟨0, Nat.zero_le _, rfl, 0, rfl, rfl, (Below.refl _ _)⟩
  case round =>
    obtain ⟨k, hk, rfl, s, hs, rfl, hb⟩ := hrel
    by_cases hlt : k < len
    · rcases HR.out with h0 | ⟨b, off, rfl, hbs, hcell⟩
      · omega
      have hck : wr.cell? ⟨b, off + k, none⟩ = some (.int .i64 (l.getD k 0)) := by rw [hb.cell hbs]; exact hcell k hlt
      have HS := Lib.hid hs
      clear hcell hs
      by_cases hk0 : k = 0
      · subst hk0
        simp only [Nat.add_zero] at hck
        have hp : 0 < len := hlt
        go_wp2
        go_roundw
        case rel => exact ⟨1, by omega, by go_num, _, by rw [sumR_one l (by have := HL.out; omega)]; simp [SR, fi_eq], rfl, hb⟩
        case measure => simp [intOf]; omega
      · have hk1 : ((k : Int) == 0) = false := by simp; omega
        have hon : (∃ r, JFl.D.add s (JFl.fi (l.getD k 0)) = some r ∧ onto (sumR l k) (l.getD k 0) = some r) ∨ (JFl.D.add s (JFl.fi (l.getD k 0)) = none ∧ onto (sumR l k) (l.getD k 0) = none) := by
          have ho := HS.out
          cases hh : sumR l k with
          | none => rw [hh] at ho; right; exact ⟨nan_add _ _ ho, rfl⟩
          | some a =>
            rw [hh] at ho
            obtain rfl : s = a := ho
            cases h : JFl.D.add s (JFl.fi (l.getD k 0)) with
            | none => right; exact ⟨rfl, by unfold onto; simpa using h⟩
            | some b => left; exact ⟨b, rfl, by unfold onto; simpa using h⟩
        rcases hon with ⟨r, h1, h2⟩ | ⟨h1, h2⟩
        · have he : ∀ w, (binOp .add 42 (.float .f64 s) (.float .f64 (floatOfInt .f64 (l[k]?.getD 0)))).run Try.prog w = .ok (.float .f64 r) w := fun w => run_float_arith w .add 42 .f64 _ _ r (by rw [List.getD_eq_getElem?_getD] at h1; exact h1)
          have H2 := Lib.hid h2
          clear h1 h2
          go_wp2
          go_roundw
          case rel => exact ⟨k + 1, by omega, by go_num, r, by rw [sumR_succ l k (by omega) (by have := HL.out; omega), H2.out]; rfl, rfl, hb⟩
          case measure => simp [intOf]; omega
        · have he : ∀ w, (binOp .add 42 (.float .f64 s) (.float .f64 (floatOfInt .f64 (l[k]?.getD 0)))).run Try.prog w = .ok (.float .f64 (nanOf w s (floatOfInt .f64 (l[k]?.getD 0)))) w.drew := fun w => run_float_nan .add 42 _ _ (.inl rfl) (by rw [List.getD_eq_getElem?_getD] at h1; exact h1) w
          have H2 := Lib.hid h2
          clear h1 h2
          go_wp2
          go_roundw
          case rel => exact ⟨k + 1, by omega, by go_num, _, by rw [sumR_succ l k (by omega) (by have := HL.out; omega), H2.out]; exact nan_read _ _ _, rfl, hb.drew⟩
          case measure => simp [intOf]; omega
    · obtain rfl : k = len := by omega
      rcases bits_SR hs k with ⟨r, h1, h2⟩ | ⟨h1, h2⟩
      · have H2 := Lib.hid h2
        have he : ∀ w, (binOp .quo 42 (.float .f64 s) (.float .f64 (floatOfInt .f64 k))).run Try.prog w = .ok (.float .f64 r) w := fun w => run_float_arith w .quo 42 .f64 _ _ r h1
        clear h1 h2 hs
        go_wp2_with (go_at_call 21; refine (bitsR_any _ _).mono ?_; rintro e w' ⟨rfl, rfl⟩)
        go_ret
        exact ⟨by rw [H2.out]; rfl, hb⟩
      · have H2 := Lib.hid h2
        have he : ∀ w, (binOp .quo 42 (.float .f64 s) (.float .f64 (floatOfInt .f64 k))).run Try.prog w = .ok (.float .f64 (nanOf w s (floatOfInt .f64 k))) w.drew := fun w => run_float_nan .quo 42 _ _ (.inr rfl) h1 w
        clear h1 h2 hs
        go_wp2_with (go_at_call 21; refine (bitsR_any _ _).mono ?_; rintro e w' ⟨rfl, rfl⟩)
        go_ret
        exact ⟨by rw [H2.out, ← nan_bits _ (nan_read wr s (floatOfInt .f64 k))]; rfl, hb.drew⟩

theorem meanR_any (a : Option Addr) (len cap : Nat) (l : List Int) (w : World) (h : IntsAt .i64 w a len l) (hl : len ≤ 1000000) (hx : ∀ x ∈ l, x.natAbs ≤ 2 ^ 63) :
    Calls Try.prog 16 #[.slice a len cap] w (RetU (JFl.meanB l) w) := by
  have e : JFl.meanB l = MeanEnd (sumR l len) len := by
    rw [sumR_eq l len hx, List.take_of_length_le (by have := h.1; omega)]
    unfold JFl.meanB MeanEnd; rw [h.1]
  rw [e]; exact meanR_raw a len cap l w h hl
end Go.Proofs.Ytkdemfahabnbjaa
