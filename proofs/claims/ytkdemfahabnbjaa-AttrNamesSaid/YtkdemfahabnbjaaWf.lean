/- AttrFloats walked: true at every input; what AttrTwice needs of planF. -/
import Derived.Test.YtkdemfahabnbjaaWe
namespace Go.Proofs.Ytkdemfahabnbjaa
open Go.RowKit

theorem partRV (n all : Int) (w : World) : Calls Try.prog 14 #[.int .i64 n, .int .i64 all] w fun e w' => e = .returned (.int .u64 (JFl.partB n all)) ∧ Below w.heap.size w w' :=
  (partR_any n all w).mono fun _ _ ⟨h1, h2⟩ => ⟨h1, h2⟩
theorem meanV (a : Option Addr) (len cap : Nat) (l : List Int) (w : World) (h : IntsAt .i64 w a len l) (hl : len ≤ 1000000) :
    Calls Try.prog 15 #[.slice a len cap] w fun e w' => e = .returned (.int .u64 (JFl.meanB l)) ∧ Below w.heap.size w w' :=
  (mean_any a len cap l w h hl).mono fun _ _ ⟨h1, h2⟩ => ⟨h1, h2⟩
theorem meanRV (a : Option Addr) (len cap : Nat) (l : List Int) (w : World) (h : IntsAt .i64 w a len l) (hl : len ≤ 1000000) (hx : ∀ x ∈ l, x.natAbs ≤ 2 ^ 63) :
    Calls Try.prog 16 #[.slice a len cap] w fun e w' => e = .returned (.int .u64 (JFl.meanB l)) ∧ Below w.heap.size w w' :=
  (meanR_any a len cap l w h hl hx).mono fun _ _ ⟨h1, h2⟩ => ⟨h1, h2⟩
theorem IntsAt.next {k : IntKind} {w w' : World} {a : Option Addr} {len : Nat} {l : List Int} (h : IntsAt k w a len l) (hb : Below w.heap.size w w') : IntsAt k w' a len l := by
  obtain ⟨h1, h2⟩ := h
  refine ⟨h1, ?_⟩
  rcases h2 with h2 | ⟨b, off, e, hl, hc⟩
  · exact .inl h2
  · exact .inr ⟨b, off, e, Nat.lt_of_lt_of_le hl hb.size, fun i hi => by rw [hb.cell hl]; exact hc i hi⟩

set_option maxHeartbeats 1000000 in
theorem attrFloats_any (n all : Int) (a : Option Addr) (len cap : Nat) (l : List Int) (x y : Int) (w : World) (h : IntsAt .i64 w a len l) (hlen : len ≤ 9223372036854775807) (hx : ∀ x ∈ l, x.natAbs ≤ 2 ^ 63) :
    Calls Try.prog 4 #[.int .i64 n, .int .i64 all, .slice a len cap, .int .u64 x, .int .u64 y] w fun e w' => e = .returned (.bool true) ∧ Below w.heap.size w w' := by
  have HX := Lib.hid hx
  have HI := Lib.hid h
  clear hx h
  by_cases h3 : 3000 < len
  · have h3' : (3000 : Int) < (len : Int) := by omega
    go_enter Try.func4, Try.ntmps4
    go_wp2_with fail
    refine (awake_any _).mono ?_
    rintro e w1 ⟨rfl, hb1⟩
    go_wp2_with fail
    go_ret
    exact ⟨rfl, hb1⟩
  · go_enter Try.func4, Try.ntmps4
    go_wp2_with fail
    refine (part_lit n all _ _ rfl).mono ?_
    rintro e w1 ⟨rfl, hb1⟩
    go_wp2_with fail
    refine (partRV n all _).mono ?_
    rintro e w2 ⟨rfl, hb2⟩
    have hc2 := bt hb1 hb2
    clear hb1 hb2
    go_wp2_with fail
    refine (meanV a len cap l _ (HI.out.next hc2) (by omega)).mono ?_
    rintro e w3 ⟨rfl, hb3⟩
    go_wp2_with fail
    refine (meanRV a len cap l _ (HI.out.next (bt hc2 hb3)) (by omega) HX.out).mono ?_
    rintro e w4 ⟨rfl, hb4⟩
    have hc4 := bt (bt hc2 hb3) hb4
    clear hb3 hb4 hc2
    go_wp2_with fail
    refine (less_lit _ _ _ _ rfl).mono ?_
    rintro e w' ⟨rfl, rfl⟩
    go_wp2_with fail
    refine (lessR_any _ _ _).mono ?_
    rintro e w' ⟨rfl, rfl⟩
    go_wp2_with fail
    refine (awake_any _).mono ?_
    rintro e w5 ⟨rfl, hb5⟩
    go_wp2_with fail
    go_ret
    exact ⟨rfl, bt hc4 hb5⟩

theorem twice_guard (a : Att) (now : Int) (h1 : 0 ≤ now) (h2 : now ≤ 2147483647) (h3 : 0 ≤ a.c) : planF a (-1) (-1) a.c now = (a, 0) := by
  unfold planF
  rw [if_neg (by omega), if_neg (by simp), if_neg (by simp), if_neg (by omega)]
  simp
theorem twice_bad (a : Att) (mode size guard now : Int) (h : (planF a mode size guard now).2 ≠ 0) : (planF a mode size guard now).1 = Att.zero := by
  unfold planF at *
  (repeat' split) <;> simp_all
theorem plan_zero (a : Att) (mode size now : Int) (h : (planF a mode size (-1) now).2 = 0) :
    -1 ≤ mode ∧ mode ≤ 4095 ∧ -1 ≤ size ∧ size ≤ 32768 ∧ (size = -1 ∨ a.k = 1) ∧
    (planF a mode size (-1) now).1 = ⟨a.k, if mode ≠ -1 then mode else a.m, a.l, if size ≠ -1 then size else a.s, if size ≠ -1 then now else a.t, if mode ≠ -1 ∨ size ≠ -1 then now else a.c, a.i, a.g⟩ := by
  unfold planF at *
  split at h
  · simp at h
  · split at h
    · simp at h
    · split at h
      · simp at h
      · split at h
        · simp at h
        · rename_i h1 h2 h3 h4
          rw [if_neg h1, if_neg h2, if_neg h3, if_neg h4]
          refine ⟨by omega, by omega, by omega, by omega, ?_, rfl⟩
          by_cases e : size = -1
          · exact .inl e
          · exact .inr (by simpa [e] using h3)
theorem twice_then (a : Att) (mode size now thn : Int) (h : (planF a mode size (-1) now).2 = 0) :
    ((thn < 0 ∨ 2147483647 < thn) → (planF (planF a mode size (-1) now).1 mode size (-1) thn).2 = 1) ∧
    (¬ (thn < 0 ∨ 2147483647 < thn) → (planF (planF a mode size (-1) now).1 mode size (-1) thn).2 = 0 ∧ sameF (planF a mode size (-1) now).1 (planF (planF a mode size (-1) now).1 mode size (-1) thn).1 = true) := by
  obtain ⟨h1, h2, h3, h4, h5, e⟩ := plan_zero a mode size now h
  rw [e]
  clear e h
  constructor
  · intro ht
    unfold planF
    rw [if_pos (by omega)]
  · intro ht
    unfold planF
    rw [if_neg (by omega), if_neg (by simp), if_neg (by simp only; omega), if_neg (by omega)]
    simp only [sameF, true_and]
    by_cases hs : size = -1 <;> by_cases hm : mode = -1 <;> simp [hs, hm]

end Go.Proofs.Ytkdemfahabnbjaa
