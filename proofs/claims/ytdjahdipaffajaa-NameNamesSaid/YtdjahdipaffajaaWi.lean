/- awake: the examples. -/
import Derived.Test.YtdjahdipaffajaaWh
namespace Go.Proofs.Ytdjahdipaffajaa
open Go.RowKit
def exL : List (Int × Int) := [(1, 1), (2, 1), (3, 2)]
theorem ups_row {w : World} {b : Nat} {t : TypeId} {l : List (Int × Int)} (h : RowAt w b t (flat l)) (hok : ∀ u ∈ l, ok64 u.1 ∧ ok64 u.2) : UpsAt w (some ⟨b, 0, none⟩) l.length l := by
  refine ⟨rfl, hok, .inr ⟨b, 0, rfl, h.lt, fun i u hu => ?_⟩⟩
  obtain ⟨g1, g2⟩ := flat_get l i u hu
  rw [Nat.zero_add, h.cell, h.cell]
  exact ⟨g1, g2⟩
set_option maxRecDepth 20000 in
set_option maxHeartbeats 4000000 in
theorem awake_any (w : World) : Calls Try.prog 8 #[] w fun e w' => e = .returned (.bool true) ∧ Below w.heap.size w w' := by
  have HU0 : Hid (UpsAt (w.alloc (.cells #[.int .i64 1, .int .i64 1, .int .i64 2, .int .i64 1, .int .i64 3, .int .i64 2] 34)) (some ⟨w.heap.size, 0, none⟩) 3 exL) := Lib.hid (ups_row (l := exL) (RowAt.new w 34 (flat exL)) (by intro u hu; simp [exL] at hu; rcases hu with rfl | rfl | rfl <;> (unfold ok64; decide)))
  have HB0 := Lib.hid ((Below.refl w.heap.size w).alloc (Nat.le_refl _) (.cells #[.int .i64 1, .int .i64 1, .int .i64 2, .int .i64 1, .int .i64 3, .int .i64 2] 34))
  go_enter Try.func8, Try.ntmps8
  go_wp2_with fail
  generalize w.alloc (.cells #[.int .i64 1, .int .i64 1, .int .i64 2, .int .i64 1, .int .i64 3, .int .i64 2] 34) = w0 at *
  refine (depth_any w0 _ 3 3 exL HU0.out (by decide) 3).mono ?_
  rintro e w1 ⟨rfl, hb⟩
  have HU1 := Lib.hid (HU0.out.next hb)
  have HB1 := Lib.hid (bt HB0.out hb)
  clear hb
  rw [show goUp exL 3 = ([3, 2, 1], 0) from by kernel_rfl, show depN ([3, 2, 1], 0) = 2 from by kernel_rfl]
  dsimp only
  go_wp2_with fail
  refine (depth_any w1 _ 3 3 exL HU1.out (by decide) 9).mono ?_
  rintro e w2 ⟨rfl, hb⟩
  have HU2 := Lib.hid (HU1.out.next hb)
  have HB2 := Lib.hid (bt HB1.out hb)
  clear hb
  rw [show goUp exL 9 = ([], 5) from by kernel_rfl, show depN ([], 5) = 0 from by kernel_rfl]
  dsimp only
  go_wp2_with fail
  have hsp := split_any w2 [97, 47, 98] (by decide)
  rw [show splE [97, 47, 98] = 0 from by kernel_rfl, show splL [97, 47, 98] = [[97], [98]] from by kernel_rfl] at hsp
  refine hsp.mono ?_
  rintro e w3 ⟨v, rfl, ⟨a, cap, rfl, hsl, _⟩, hb⟩
  have HU3 := Lib.hid (HU2.out.next hb)
  have HB3 := Lib.hid (bt HB2.out hb)
  have HSL := Lib.hid hsl
  clear hb hsl hsp
  go_wp2_with fail
  have hm := may_any w3 ⟨#[97]⟩ (by decide)
  rw [show mayL (⟨#[97]⟩ : ByteArray).data.toList = true from by kernel_rfl] at hm
  refine hm.mono ?_
  rintro e w4 ⟨rfl, hb⟩
  have HU4 := Lib.hid (HU3.out.next hb)
  have HB4 := Lib.hid (bt HB3.out hb)
  have HSL4 := Lib.hid (HSL.out.next hb)
  clear hb hm
  go_wp2_with fail
  refine (moves_any w4 _ 3 3 exL HU4.out (by decide) 2 3).mono ?_
  rintro e w5 ⟨rfl, hb⟩
  have HU5 := Lib.hid (HU4.out.next hb)
  have HB5 := Lib.hid (bt HB4.out hb)
  have HSL5 := Lib.hid (HSL4.out.next hb)
  clear hb
  rw [show movE (goUp exL 3) 2 = 58 from by kernel_rfl]
  go_wp2_with fail
  refine (moves_any w5 _ 3 3 exL HU5.out (by decide) 2 2).mono ?_
  rintro e w6 ⟨rfl, hb⟩
  have HU6 := Lib.hid (HU5.out.next hb)
  have HB6 := Lib.hid (bt HB5.out hb)
  have HSL6 := Lib.hid (HSL5.out.next hb)
  clear hb
  rw [show movE (goUp exL 2) 2 = 58 from by kernel_rfl]
  go_wp2_with fail
  refine (moves_any w6 _ 3 3 exL HU6.out (by decide) 3 1).mono ?_
  rintro e w7 ⟨rfl, hb⟩
  have HB7 := Lib.hid (bt HB6.out hb)
  have hs7 := HSL6.out.next hb
  obtain ⟨b1, o1, rfl, l1, q1⟩ := hs7.get 1 (by decide)
  have d1 : w7.cell? ⟨b1, o1 + 1, none⟩ = some (.string ⟨#[98]⟩) := q1
  clear hb hs7 q1 HSL HSL4 HSL5 HSL6
  rw [show movE (goUp exL 1) 3 = 0 from by kernel_rfl]
  go_wp2
  go_ret
  exact ⟨rfl, HB7.out⟩
end Go.Proofs.Ytdjahdipaffajaa
