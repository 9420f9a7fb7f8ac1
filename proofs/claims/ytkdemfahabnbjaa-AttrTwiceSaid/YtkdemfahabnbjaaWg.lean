/- AttrTwice walked, way by way: true at every input. -/
import Derived.Test.YtkdemfahabnbjaaWf
namespace Go.Proofs.Ytkdemfahabnbjaa
open Go.RowKit

set_option maxHeartbeats 1000000 in
theorem twice_g1_e1 (k m l s t c i g mode size now thn : Int) (w : World) (g1 : 0 ≤ now) (g2 : now ≤ 2147483647) (g3 : 0 ≤ c) (E : Int) (hE : (E != 0) = true) (H : Hid (planF ⟨k, m, l, s, t, c, i, g⟩ mode size (-1) now = (⟨0, 0, 0, 0, 0, 0, 0, 0⟩, E))) :
    Calls Try.prog 6 #[.agg #[.int .u8 k, .int .i64 m, .int .i64 l, .int .i64 s, .int .i64 t, .int .i64 c, .int .i64 i, .int .i64 g], .int .i64 mode, .int .i64 size, .int .i64 now, .int .i64 thn] w fun e w' => e = .returned (.bool true) ∧ Below w.heap.size w w' := by
  go_enter Try.func6, Try.ntmps6
  go_wp2_with fail
  refine (awake_any _).mono ?_
  rintro e w1 ⟨rfl, hb1⟩
  have A := (AttAt.new w k m l s t c i g).next hb1
  have hz1 : w.heap.size < w1.heap.size := by have := hb1.size; simp at this; omega
  have hw1 : Below w.heap.size w w1 := btA (Below.refl _ _) hb1
  clear hb1
  have qA := A.cell
  go_wp2_with fail
  refine (planV k m l s t c i g (-1) (-1) c now k m l s t c i g 0 _ (twice_guard ⟨k, m, l, s, t, c, i, g⟩ now g1 g2 g3)).mono ?_
  rintro e w2 ⟨rfl, hb2⟩
  have A2 := A.next hb2
  have hz2 : w.heap.size < w2.heap.size := Nat.lt_of_lt_of_le hz1 hb2.size
  have hw2 := bt hw1 hb2
  clear hb2 hw1 qA hz1
  have qA := A2.cell
  go_wp2_with fail
  refine (planV k m l s t c i g mode size (-1) now 0 0 0 0 0 0 0 0 E _ H.out).mono ?_
  rintro e w3 ⟨rfl, hb3⟩
  have hw3 := bt (hw2.alloc hw2.size _) hb3
  clear hb3 qA
  go_wp2_with fail
  go_ret
  exact ⟨rfl, hw3.alloc hw3.size _⟩
set_option maxHeartbeats 1000000 in
theorem twice_g1_e2 (k m l s t c i g mode size now thn : Int) (w : World) (g1 : 0 ≤ now) (g2 : now ≤ 2147483647) (g3 : 0 ≤ c) (K M L S T C I G : Int) (h4 : thn < 0) (H : Hid (planF ⟨k, m, l, s, t, c, i, g⟩ mode size (-1) now = (⟨K, M, L, S, T, C, I, G⟩, 0))) (K2 M2 L2 S2 T2 C2 I2 G2 : Int) (H2 : Hid (planF ⟨K, M, L, S, T, C, I, G⟩ mode size (-1) thn = (⟨K2, M2, L2, S2, T2, C2, I2, G2⟩, 1))) :
    Calls Try.prog 6 #[.agg #[.int .u8 k, .int .i64 m, .int .i64 l, .int .i64 s, .int .i64 t, .int .i64 c, .int .i64 i, .int .i64 g], .int .i64 mode, .int .i64 size, .int .i64 now, .int .i64 thn] w fun e w' => e = .returned (.bool true) ∧ Below w.heap.size w w' := by
  go_enter Try.func6, Try.ntmps6
  go_wp2_with fail
  refine (awake_any _).mono ?_
  rintro e w1 ⟨rfl, hb1⟩
  have A := (AttAt.new w k m l s t c i g).next hb1
  have hz1 : w.heap.size < w1.heap.size := by have := hb1.size; simp at this; omega
  have hw1 : Below w.heap.size w w1 := btA (Below.refl _ _) hb1
  clear hb1
  have qA := A.cell
  go_wp2_with fail
  refine (planV k m l s t c i g (-1) (-1) c now k m l s t c i g 0 _ (twice_guard ⟨k, m, l, s, t, c, i, g⟩ now g1 g2 g3)).mono ?_
  rintro e w2 ⟨rfl, hb2⟩
  have A2 := A.next hb2
  have hz2 : w.heap.size < w2.heap.size := Nat.lt_of_lt_of_le hz1 hb2.size
  have hw2 := bt hw1 hb2
  clear hb2 hw1 qA hz1
  have qA := A2.cell
  go_wp2_with fail
  refine (planV k m l s t c i g mode size (-1) now K M L S T C I G 0 _ H.out).mono ?_
  rintro e w3 ⟨rfl, hb3⟩
  have hw3 := bt (hw2.alloc hw2.size _) hb3
  clear hb3 qA
  go_wp2_with fail
  refine (planV K M L S T C I G mode size (-1) thn K2 M2 L2 S2 T2 C2 I2 G2 1 _ H2.out).mono ?_
  rintro e w4 ⟨rfl, hb4⟩
  have D := ((AttAt.new w3 K M L S T C I G).next hb4)
  have hz4 : w3.heap.size < w4.heap.size := by have := hb4.size; simp at this; omega
  have hw4 := btA hw3 hb4
  clear hb4 hw3
  have qD := D.cell
  go_wp2_with fail
  go_ret
  exact ⟨rfl, hw4.alloc hw4.size _⟩
set_option maxHeartbeats 1000000 in
theorem twice_g1_e3 (k m l s t c i g mode size now thn : Int) (w : World) (g1 : 0 ≤ now) (g2 : now ≤ 2147483647) (g3 : 0 ≤ c) (K M L S T C I G : Int) (h3 : 0 ≤ thn) (h4 : 2147483647 < thn) (H : Hid (planF ⟨k, m, l, s, t, c, i, g⟩ mode size (-1) now = (⟨K, M, L, S, T, C, I, G⟩, 0))) (K2 M2 L2 S2 T2 C2 I2 G2 : Int) (H2 : Hid (planF ⟨K, M, L, S, T, C, I, G⟩ mode size (-1) thn = (⟨K2, M2, L2, S2, T2, C2, I2, G2⟩, 1))) :
    Calls Try.prog 6 #[.agg #[.int .u8 k, .int .i64 m, .int .i64 l, .int .i64 s, .int .i64 t, .int .i64 c, .int .i64 i, .int .i64 g], .int .i64 mode, .int .i64 size, .int .i64 now, .int .i64 thn] w fun e w' => e = .returned (.bool true) ∧ Below w.heap.size w w' := by
  go_enter Try.func6, Try.ntmps6
  go_wp2_with fail
  refine (awake_any _).mono ?_
  rintro e w1 ⟨rfl, hb1⟩
  have A := (AttAt.new w k m l s t c i g).next hb1
  have hz1 : w.heap.size < w1.heap.size := by have := hb1.size; simp at this; omega
  have hw1 : Below w.heap.size w w1 := btA (Below.refl _ _) hb1
  clear hb1
  have qA := A.cell
  go_wp2_with fail
  refine (planV k m l s t c i g (-1) (-1) c now k m l s t c i g 0 _ (twice_guard ⟨k, m, l, s, t, c, i, g⟩ now g1 g2 g3)).mono ?_
  rintro e w2 ⟨rfl, hb2⟩
  have A2 := A.next hb2
  have hz2 : w.heap.size < w2.heap.size := Nat.lt_of_lt_of_le hz1 hb2.size
  have hw2 := bt hw1 hb2
  clear hb2 hw1 qA hz1
  have qA := A2.cell
  go_wp2_with fail
  refine (planV k m l s t c i g mode size (-1) now K M L S T C I G 0 _ H.out).mono ?_
  rintro e w3 ⟨rfl, hb3⟩
  have hw3 := bt (hw2.alloc hw2.size _) hb3
  clear hb3 qA
  go_wp2_with fail
  refine (planV K M L S T C I G mode size (-1) thn K2 M2 L2 S2 T2 C2 I2 G2 1 _ H2.out).mono ?_
  rintro e w4 ⟨rfl, hb4⟩
  have D := ((AttAt.new w3 K M L S T C I G).next hb4)
  have hz4 : w3.heap.size < w4.heap.size := by have := hb4.size; simp at this; omega
  have hw4 := btA hw3 hb4
  clear hb4 hw3
  have qD := D.cell
  go_wp2_with fail
  go_ret
  exact ⟨rfl, hw4.alloc hw4.size _⟩
set_option maxHeartbeats 1000000 in
theorem twice_g1_e4 (k m l s t c i g mode size now thn : Int) (w : World) (g1 : 0 ≤ now) (g2 : now ≤ 2147483647) (g3 : 0 ≤ c) (K M L S T C I G : Int) (h3 : 0 ≤ thn) (h4 : thn ≤ 2147483647) (H : Hid (planF ⟨k, m, l, s, t, c, i, g⟩ mode size (-1) now = (⟨K, M, L, S, T, C, I, G⟩, 0))) (K2 M2 L2 S2 T2 C2 I2 G2 : Int) (H2 : Hid (planF ⟨K, M, L, S, T, C, I, G⟩ mode size (-1) thn = (⟨K2, M2, L2, S2, T2, C2, I2, G2⟩, 0))) (hs : Hid (sameF ⟨K, M, L, S, T, C, I, G⟩ ⟨K2, M2, L2, S2, T2, C2, I2, G2⟩ = true)) :
    Calls Try.prog 6 #[.agg #[.int .u8 k, .int .i64 m, .int .i64 l, .int .i64 s, .int .i64 t, .int .i64 c, .int .i64 i, .int .i64 g], .int .i64 mode, .int .i64 size, .int .i64 now, .int .i64 thn] w fun e w' => e = .returned (.bool true) ∧ Below w.heap.size w w' := by
  go_enter Try.func6, Try.ntmps6
  go_wp2_with fail
  refine (awake_any _).mono ?_
  rintro e w1 ⟨rfl, hb1⟩
  have A := (AttAt.new w k m l s t c i g).next hb1
  have hz1 : w.heap.size < w1.heap.size := by have := hb1.size; simp at this; omega
  have hw1 : Below w.heap.size w w1 := btA (Below.refl _ _) hb1
  clear hb1
  have qA := A.cell
  go_wp2_with fail
  refine (planV k m l s t c i g (-1) (-1) c now k m l s t c i g 0 _ (twice_guard ⟨k, m, l, s, t, c, i, g⟩ now g1 g2 g3)).mono ?_
  rintro e w2 ⟨rfl, hb2⟩
  have A2 := A.next hb2
  have hz2 : w.heap.size < w2.heap.size := Nat.lt_of_lt_of_le hz1 hb2.size
  have hw2 := bt hw1 hb2
  clear hb2 hw1 qA hz1
  have qA := A2.cell
  go_wp2_with fail
  refine (planV k m l s t c i g mode size (-1) now K M L S T C I G 0 _ H.out).mono ?_
  rintro e w3 ⟨rfl, hb3⟩
  have hw3 := bt (hw2.alloc hw2.size _) hb3
  clear hb3 qA
  go_wp2_with fail
  refine (planV K M L S T C I G mode size (-1) thn K2 M2 L2 S2 T2 C2 I2 G2 0 _ H2.out).mono ?_
  rintro e w4 ⟨rfl, hb4⟩
  have D := ((AttAt.new w3 K M L S T C I G).next hb4)
  have hz4 : w3.heap.size < w4.heap.size := by have := hb4.size; simp at this; omega
  have hw4 := btA hw3 hb4
  clear hb4 hw3
  have qD := D.cell
  go_wp2_with fail
  refine (same_lit K M L S T C I G K2 M2 L2 S2 T2 C2 I2 G2 true _ hs.out).mono ?_
  rintro e w5 ⟨rfl, hb5⟩
  go_wp2_with fail
  go_ret
  exact ⟨rfl, bt (hw4.alloc hw4.size _) hb5⟩
set_option maxHeartbeats 1000000 in
theorem twice_g2_e1 (k m l s t c i g mode size now thn : Int) (w : World) (g1 : now < 0) (E : Int) (hE : (E != 0) = true) (H : Hid (planF ⟨k, m, l, s, t, c, i, g⟩ mode size (-1) now = (⟨0, 0, 0, 0, 0, 0, 0, 0⟩, E))) :
    Calls Try.prog 6 #[.agg #[.int .u8 k, .int .i64 m, .int .i64 l, .int .i64 s, .int .i64 t, .int .i64 c, .int .i64 i, .int .i64 g], .int .i64 mode, .int .i64 size, .int .i64 now, .int .i64 thn] w fun e w' => e = .returned (.bool true) ∧ Below w.heap.size w w' := by
  go_enter Try.func6, Try.ntmps6
  go_wp2_with fail
  refine (awake_any _).mono ?_
  rintro e w1 ⟨rfl, hb1⟩
  have A := (AttAt.new w k m l s t c i g).next hb1
  have hz1 : w.heap.size < w1.heap.size := by have := hb1.size; simp at this; omega
  have hw1 : Below w.heap.size w w1 := btA (Below.refl _ _) hb1
  clear hb1
  have qA := A.cell
  go_wp2_with fail
  refine (planV k m l s t c i g mode size (-1) now 0 0 0 0 0 0 0 0 E _ H.out).mono ?_
  rintro e w3 ⟨rfl, hb3⟩
  have hw3 := bt hw1 hb3
  clear hb3 qA
  go_wp2_with fail
  go_ret
  exact ⟨rfl, hw3.alloc hw3.size _⟩
set_option maxHeartbeats 1000000 in
theorem twice_g2_e2 (k m l s t c i g mode size now thn : Int) (w : World) (g1 : now < 0) (K M L S T C I G : Int) (h4 : thn < 0) (H : Hid (planF ⟨k, m, l, s, t, c, i, g⟩ mode size (-1) now = (⟨K, M, L, S, T, C, I, G⟩, 0))) (K2 M2 L2 S2 T2 C2 I2 G2 : Int) (H2 : Hid (planF ⟨K, M, L, S, T, C, I, G⟩ mode size (-1) thn = (⟨K2, M2, L2, S2, T2, C2, I2, G2⟩, 1))) :
    Calls Try.prog 6 #[.agg #[.int .u8 k, .int .i64 m, .int .i64 l, .int .i64 s, .int .i64 t, .int .i64 c, .int .i64 i, .int .i64 g], .int .i64 mode, .int .i64 size, .int .i64 now, .int .i64 thn] w fun e w' => e = .returned (.bool true) ∧ Below w.heap.size w w' := by
  go_enter Try.func6, Try.ntmps6
  go_wp2_with fail
  refine (awake_any _).mono ?_
  rintro e w1 ⟨rfl, hb1⟩
  have A := (AttAt.new w k m l s t c i g).next hb1
  have hz1 : w.heap.size < w1.heap.size := by have := hb1.size; simp at this; omega
  have hw1 : Below w.heap.size w w1 := btA (Below.refl _ _) hb1
  clear hb1
  have qA := A.cell
  go_wp2_with fail
  refine (planV k m l s t c i g mode size (-1) now K M L S T C I G 0 _ H.out).mono ?_
  rintro e w3 ⟨rfl, hb3⟩
  have hw3 := bt hw1 hb3
  clear hb3 qA
  go_wp2_with fail
  refine (planV K M L S T C I G mode size (-1) thn K2 M2 L2 S2 T2 C2 I2 G2 1 _ H2.out).mono ?_
  rintro e w4 ⟨rfl, hb4⟩
  have D := ((AttAt.new w3 K M L S T C I G).next hb4)
  have hz4 : w3.heap.size < w4.heap.size := by have := hb4.size; simp at this; omega
  have hw4 := btA hw3 hb4
  clear hb4 hw3
  have qD := D.cell
  go_wp2_with fail
  go_ret
  exact ⟨rfl, hw4.alloc hw4.size _⟩
set_option maxHeartbeats 1000000 in
theorem twice_g2_e3 (k m l s t c i g mode size now thn : Int) (w : World) (g1 : now < 0) (K M L S T C I G : Int) (h3 : 0 ≤ thn) (h4 : 2147483647 < thn) (H : Hid (planF ⟨k, m, l, s, t, c, i, g⟩ mode size (-1) now = (⟨K, M, L, S, T, C, I, G⟩, 0))) (K2 M2 L2 S2 T2 C2 I2 G2 : Int) (H2 : Hid (planF ⟨K, M, L, S, T, C, I, G⟩ mode size (-1) thn = (⟨K2, M2, L2, S2, T2, C2, I2, G2⟩, 1))) :
    Calls Try.prog 6 #[.agg #[.int .u8 k, .int .i64 m, .int .i64 l, .int .i64 s, .int .i64 t, .int .i64 c, .int .i64 i, .int .i64 g], .int .i64 mode, .int .i64 size, .int .i64 now, .int .i64 thn] w fun e w' => e = .returned (.bool true) ∧ Below w.heap.size w w' := by
  go_enter Try.func6, Try.ntmps6
  go_wp2_with fail
  refine (awake_any _).mono ?_
  rintro e w1 ⟨rfl, hb1⟩
  have A := (AttAt.new w k m l s t c i g).next hb1
  have hz1 : w.heap.size < w1.heap.size := by have := hb1.size; simp at this; omega
  have hw1 : Below w.heap.size w w1 := btA (Below.refl _ _) hb1
  clear hb1
  have qA := A.cell
  go_wp2_with fail
  refine (planV k m l s t c i g mode size (-1) now K M L S T C I G 0 _ H.out).mono ?_
  rintro e w3 ⟨rfl, hb3⟩
  have hw3 := bt hw1 hb3
  clear hb3 qA
  go_wp2_with fail
  refine (planV K M L S T C I G mode size (-1) thn K2 M2 L2 S2 T2 C2 I2 G2 1 _ H2.out).mono ?_
  rintro e w4 ⟨rfl, hb4⟩
  have D := ((AttAt.new w3 K M L S T C I G).next hb4)
  have hz4 : w3.heap.size < w4.heap.size := by have := hb4.size; simp at this; omega
  have hw4 := btA hw3 hb4
  clear hb4 hw3
  have qD := D.cell
  go_wp2_with fail
  go_ret
  exact ⟨rfl, hw4.alloc hw4.size _⟩
set_option maxHeartbeats 1000000 in
theorem twice_g2_e4 (k m l s t c i g mode size now thn : Int) (w : World) (g1 : now < 0) (K M L S T C I G : Int) (h3 : 0 ≤ thn) (h4 : thn ≤ 2147483647) (H : Hid (planF ⟨k, m, l, s, t, c, i, g⟩ mode size (-1) now = (⟨K, M, L, S, T, C, I, G⟩, 0))) (K2 M2 L2 S2 T2 C2 I2 G2 : Int) (H2 : Hid (planF ⟨K, M, L, S, T, C, I, G⟩ mode size (-1) thn = (⟨K2, M2, L2, S2, T2, C2, I2, G2⟩, 0))) (hs : Hid (sameF ⟨K, M, L, S, T, C, I, G⟩ ⟨K2, M2, L2, S2, T2, C2, I2, G2⟩ = true)) :
    Calls Try.prog 6 #[.agg #[.int .u8 k, .int .i64 m, .int .i64 l, .int .i64 s, .int .i64 t, .int .i64 c, .int .i64 i, .int .i64 g], .int .i64 mode, .int .i64 size, .int .i64 now, .int .i64 thn] w fun e w' => e = .returned (.bool true) ∧ Below w.heap.size w w' := by
  go_enter Try.func6, Try.ntmps6
  go_wp2_with fail
  refine (awake_any _).mono ?_
  rintro e w1 ⟨rfl, hb1⟩
  have A := (AttAt.new w k m l s t c i g).next hb1
  have hz1 : w.heap.size < w1.heap.size := by have := hb1.size; simp at this; omega
  have hw1 : Below w.heap.size w w1 := btA (Below.refl _ _) hb1
  clear hb1
  have qA := A.cell
  go_wp2_with fail
  refine (planV k m l s t c i g mode size (-1) now K M L S T C I G 0 _ H.out).mono ?_
  rintro e w3 ⟨rfl, hb3⟩
  have hw3 := bt hw1 hb3
  clear hb3 qA
  go_wp2_with fail
  refine (planV K M L S T C I G mode size (-1) thn K2 M2 L2 S2 T2 C2 I2 G2 0 _ H2.out).mono ?_
  rintro e w4 ⟨rfl, hb4⟩
  have D := ((AttAt.new w3 K M L S T C I G).next hb4)
  have hz4 : w3.heap.size < w4.heap.size := by have := hb4.size; simp at this; omega
  have hw4 := btA hw3 hb4
  clear hb4 hw3
  have qD := D.cell
  go_wp2_with fail
  refine (same_lit K M L S T C I G K2 M2 L2 S2 T2 C2 I2 G2 true _ hs.out).mono ?_
  rintro e w5 ⟨rfl, hb5⟩
  go_wp2_with fail
  go_ret
  exact ⟨rfl, bt (hw4.alloc hw4.size _) hb5⟩
set_option maxHeartbeats 1000000 in
theorem twice_g3_e1 (k m l s t c i g mode size now thn : Int) (w : World) (g0 : 0 ≤ now) (g1 : 2147483647 < now) (E : Int) (hE : (E != 0) = true) (H : Hid (planF ⟨k, m, l, s, t, c, i, g⟩ mode size (-1) now = (⟨0, 0, 0, 0, 0, 0, 0, 0⟩, E))) :
    Calls Try.prog 6 #[.agg #[.int .u8 k, .int .i64 m, .int .i64 l, .int .i64 s, .int .i64 t, .int .i64 c, .int .i64 i, .int .i64 g], .int .i64 mode, .int .i64 size, .int .i64 now, .int .i64 thn] w fun e w' => e = .returned (.bool true) ∧ Below w.heap.size w w' := by
  go_enter Try.func6, Try.ntmps6
  go_wp2_with fail
  refine (awake_any _).mono ?_
  rintro e w1 ⟨rfl, hb1⟩
  have A := (AttAt.new w k m l s t c i g).next hb1
  have hz1 : w.heap.size < w1.heap.size := by have := hb1.size; simp at this; omega
  have hw1 : Below w.heap.size w w1 := btA (Below.refl _ _) hb1
  clear hb1
  have qA := A.cell
  go_wp2_with fail
  refine (planV k m l s t c i g mode size (-1) now 0 0 0 0 0 0 0 0 E _ H.out).mono ?_
  rintro e w3 ⟨rfl, hb3⟩
  have hw3 := bt hw1 hb3
  clear hb3 qA
  go_wp2_with fail
  go_ret
  exact ⟨rfl, hw3.alloc hw3.size _⟩
set_option maxHeartbeats 1000000 in
theorem twice_g3_e2 (k m l s t c i g mode size now thn : Int) (w : World) (g0 : 0 ≤ now) (g1 : 2147483647 < now) (K M L S T C I G : Int) (h4 : thn < 0) (H : Hid (planF ⟨k, m, l, s, t, c, i, g⟩ mode size (-1) now = (⟨K, M, L, S, T, C, I, G⟩, 0))) (K2 M2 L2 S2 T2 C2 I2 G2 : Int) (H2 : Hid (planF ⟨K, M, L, S, T, C, I, G⟩ mode size (-1) thn = (⟨K2, M2, L2, S2, T2, C2, I2, G2⟩, 1))) :
    Calls Try.prog 6 #[.agg #[.int .u8 k, .int .i64 m, .int .i64 l, .int .i64 s, .int .i64 t, .int .i64 c, .int .i64 i, .int .i64 g], .int .i64 mode, .int .i64 size, .int .i64 now, .int .i64 thn] w fun e w' => e = .returned (.bool true) ∧ Below w.heap.size w w' := by
  go_enter Try.func6, Try.ntmps6
  go_wp2_with fail
  refine (awake_any _).mono ?_
  rintro e w1 ⟨rfl, hb1⟩
  have A := (AttAt.new w k m l s t c i g).next hb1
  have hz1 : w.heap.size < w1.heap.size := by have := hb1.size; simp at this; omega
  have hw1 : Below w.heap.size w w1 := btA (Below.refl _ _) hb1
  clear hb1
  have qA := A.cell
  go_wp2_with fail
  refine (planV k m l s t c i g mode size (-1) now K M L S T C I G 0 _ H.out).mono ?_
  rintro e w3 ⟨rfl, hb3⟩
  have hw3 := bt hw1 hb3
  clear hb3 qA
  go_wp2_with fail
  refine (planV K M L S T C I G mode size (-1) thn K2 M2 L2 S2 T2 C2 I2 G2 1 _ H2.out).mono ?_
  rintro e w4 ⟨rfl, hb4⟩
  have D := ((AttAt.new w3 K M L S T C I G).next hb4)
  have hz4 : w3.heap.size < w4.heap.size := by have := hb4.size; simp at this; omega
  have hw4 := btA hw3 hb4
  clear hb4 hw3
  have qD := D.cell
  go_wp2_with fail
  go_ret
  exact ⟨rfl, hw4.alloc hw4.size _⟩
set_option maxHeartbeats 1000000 in
theorem twice_g3_e3 (k m l s t c i g mode size now thn : Int) (w : World) (g0 : 0 ≤ now) (g1 : 2147483647 < now) (K M L S T C I G : Int) (h3 : 0 ≤ thn) (h4 : 2147483647 < thn) (H : Hid (planF ⟨k, m, l, s, t, c, i, g⟩ mode size (-1) now = (⟨K, M, L, S, T, C, I, G⟩, 0))) (K2 M2 L2 S2 T2 C2 I2 G2 : Int) (H2 : Hid (planF ⟨K, M, L, S, T, C, I, G⟩ mode size (-1) thn = (⟨K2, M2, L2, S2, T2, C2, I2, G2⟩, 1))) :
    Calls Try.prog 6 #[.agg #[.int .u8 k, .int .i64 m, .int .i64 l, .int .i64 s, .int .i64 t, .int .i64 c, .int .i64 i, .int .i64 g], .int .i64 mode, .int .i64 size, .int .i64 now, .int .i64 thn] w fun e w' => e = .returned (.bool true) ∧ Below w.heap.size w w' := by
  go_enter Try.func6, Try.ntmps6
  go_wp2_with fail
  refine (awake_any _).mono ?_
  rintro e w1 ⟨rfl, hb1⟩
  have A := (AttAt.new w k m l s t c i g).next hb1
  have hz1 : w.heap.size < w1.heap.size := by have := hb1.size; simp at this; omega
  have hw1 : Below w.heap.size w w1 := btA (Below.refl _ _) hb1
  clear hb1
  have qA := A.cell
  go_wp2_with fail
  refine (planV k m l s t c i g mode size (-1) now K M L S T C I G 0 _ H.out).mono ?_
  rintro e w3 ⟨rfl, hb3⟩
  have hw3 := bt hw1 hb3
  clear hb3 qA
  go_wp2_with fail
  refine (planV K M L S T C I G mode size (-1) thn K2 M2 L2 S2 T2 C2 I2 G2 1 _ H2.out).mono ?_
  rintro e w4 ⟨rfl, hb4⟩
  have D := ((AttAt.new w3 K M L S T C I G).next hb4)
  have hz4 : w3.heap.size < w4.heap.size := by have := hb4.size; simp at this; omega
  have hw4 := btA hw3 hb4
  clear hb4 hw3
  have qD := D.cell
  go_wp2_with fail
  go_ret
  exact ⟨rfl, hw4.alloc hw4.size _⟩
set_option maxHeartbeats 1000000 in
theorem twice_g3_e4 (k m l s t c i g mode size now thn : Int) (w : World) (g0 : 0 ≤ now) (g1 : 2147483647 < now) (K M L S T C I G : Int) (h3 : 0 ≤ thn) (h4 : thn ≤ 2147483647) (H : Hid (planF ⟨k, m, l, s, t, c, i, g⟩ mode size (-1) now = (⟨K, M, L, S, T, C, I, G⟩, 0))) (K2 M2 L2 S2 T2 C2 I2 G2 : Int) (H2 : Hid (planF ⟨K, M, L, S, T, C, I, G⟩ mode size (-1) thn = (⟨K2, M2, L2, S2, T2, C2, I2, G2⟩, 0))) (hs : Hid (sameF ⟨K, M, L, S, T, C, I, G⟩ ⟨K2, M2, L2, S2, T2, C2, I2, G2⟩ = true)) :
    Calls Try.prog 6 #[.agg #[.int .u8 k, .int .i64 m, .int .i64 l, .int .i64 s, .int .i64 t, .int .i64 c, .int .i64 i, .int .i64 g], .int .i64 mode, .int .i64 size, .int .i64 now, .int .i64 thn] w fun e w' => e = .returned (.bool true) ∧ Below w.heap.size w w' := by
  go_enter Try.func6, Try.ntmps6
  go_wp2_with fail
  refine (awake_any _).mono ?_
  rintro e w1 ⟨rfl, hb1⟩
  have A := (AttAt.new w k m l s t c i g).next hb1
  have hz1 : w.heap.size < w1.heap.size := by have := hb1.size; simp at this; omega
  have hw1 : Below w.heap.size w w1 := btA (Below.refl _ _) hb1
  clear hb1
  have qA := A.cell
  go_wp2_with fail
  refine (planV k m l s t c i g mode size (-1) now K M L S T C I G 0 _ H.out).mono ?_
  rintro e w3 ⟨rfl, hb3⟩
  have hw3 := bt hw1 hb3
  clear hb3 qA
  go_wp2_with fail
  refine (planV K M L S T C I G mode size (-1) thn K2 M2 L2 S2 T2 C2 I2 G2 0 _ H2.out).mono ?_
  rintro e w4 ⟨rfl, hb4⟩
  have D := ((AttAt.new w3 K M L S T C I G).next hb4)
  have hz4 : w3.heap.size < w4.heap.size := by have := hb4.size; simp at this; omega
  have hw4 := btA hw3 hb4
  clear hb4 hw3
  have qD := D.cell
  go_wp2_with fail
  refine (same_lit K M L S T C I G K2 M2 L2 S2 T2 C2 I2 G2 true _ hs.out).mono ?_
  rintro e w5 ⟨rfl, hb5⟩
  go_wp2_with fail
  go_ret
  exact ⟨rfl, bt (hw4.alloc hw4.size _) hb5⟩
set_option maxHeartbeats 1000000 in
theorem twice_g4_e1 (k m l s t c i g mode size now thn : Int) (w : World) (g1 : 0 ≤ now) (g2 : now ≤ 2147483647) (g3 : c < 0) (E : Int) (hE : (E != 0) = true) (H : Hid (planF ⟨k, m, l, s, t, c, i, g⟩ mode size (-1) now = (⟨0, 0, 0, 0, 0, 0, 0, 0⟩, E))) :
    Calls Try.prog 6 #[.agg #[.int .u8 k, .int .i64 m, .int .i64 l, .int .i64 s, .int .i64 t, .int .i64 c, .int .i64 i, .int .i64 g], .int .i64 mode, .int .i64 size, .int .i64 now, .int .i64 thn] w fun e w' => e = .returned (.bool true) ∧ Below w.heap.size w w' := by
  go_enter Try.func6, Try.ntmps6
  go_wp2_with fail
  refine (awake_any _).mono ?_
  rintro e w1 ⟨rfl, hb1⟩
  have A := (AttAt.new w k m l s t c i g).next hb1
  have hz1 : w.heap.size < w1.heap.size := by have := hb1.size; simp at this; omega
  have hw1 : Below w.heap.size w w1 := btA (Below.refl _ _) hb1
  clear hb1
  have qA := A.cell
  go_wp2_with fail
  refine (planV k m l s t c i g mode size (-1) now 0 0 0 0 0 0 0 0 E _ H.out).mono ?_
  rintro e w3 ⟨rfl, hb3⟩
  have hw3 := bt hw1 hb3
  clear hb3 qA
  go_wp2_with fail
  go_ret
  exact ⟨rfl, hw3.alloc hw3.size _⟩
set_option maxHeartbeats 1000000 in
theorem twice_g4_e2 (k m l s t c i g mode size now thn : Int) (w : World) (g1 : 0 ≤ now) (g2 : now ≤ 2147483647) (g3 : c < 0) (K M L S T C I G : Int) (h4 : thn < 0) (H : Hid (planF ⟨k, m, l, s, t, c, i, g⟩ mode size (-1) now = (⟨K, M, L, S, T, C, I, G⟩, 0))) (K2 M2 L2 S2 T2 C2 I2 G2 : Int) (H2 : Hid (planF ⟨K, M, L, S, T, C, I, G⟩ mode size (-1) thn = (⟨K2, M2, L2, S2, T2, C2, I2, G2⟩, 1))) :
    Calls Try.prog 6 #[.agg #[.int .u8 k, .int .i64 m, .int .i64 l, .int .i64 s, .int .i64 t, .int .i64 c, .int .i64 i, .int .i64 g], .int .i64 mode, .int .i64 size, .int .i64 now, .int .i64 thn] w fun e w' => e = .returned (.bool true) ∧ Below w.heap.size w w' := by
  go_enter Try.func6, Try.ntmps6
  go_wp2_with fail
  refine (awake_any _).mono ?_
  rintro e w1 ⟨rfl, hb1⟩
  have A := (AttAt.new w k m l s t c i g).next hb1
  have hz1 : w.heap.size < w1.heap.size := by have := hb1.size; simp at this; omega
  have hw1 : Below w.heap.size w w1 := btA (Below.refl _ _) hb1
  clear hb1
  have qA := A.cell
  go_wp2_with fail
  refine (planV k m l s t c i g mode size (-1) now K M L S T C I G 0 _ H.out).mono ?_
  rintro e w3 ⟨rfl, hb3⟩
  have hw3 := bt hw1 hb3
  clear hb3 qA
  go_wp2_with fail
  refine (planV K M L S T C I G mode size (-1) thn K2 M2 L2 S2 T2 C2 I2 G2 1 _ H2.out).mono ?_
  rintro e w4 ⟨rfl, hb4⟩
  have D := ((AttAt.new w3 K M L S T C I G).next hb4)
  have hz4 : w3.heap.size < w4.heap.size := by have := hb4.size; simp at this; omega
  have hw4 := btA hw3 hb4
  clear hb4 hw3
  have qD := D.cell
  go_wp2_with fail
  go_ret
  exact ⟨rfl, hw4.alloc hw4.size _⟩
set_option maxHeartbeats 1000000 in
theorem twice_g4_e3 (k m l s t c i g mode size now thn : Int) (w : World) (g1 : 0 ≤ now) (g2 : now ≤ 2147483647) (g3 : c < 0) (K M L S T C I G : Int) (h3 : 0 ≤ thn) (h4 : 2147483647 < thn) (H : Hid (planF ⟨k, m, l, s, t, c, i, g⟩ mode size (-1) now = (⟨K, M, L, S, T, C, I, G⟩, 0))) (K2 M2 L2 S2 T2 C2 I2 G2 : Int) (H2 : Hid (planF ⟨K, M, L, S, T, C, I, G⟩ mode size (-1) thn = (⟨K2, M2, L2, S2, T2, C2, I2, G2⟩, 1))) :
    Calls Try.prog 6 #[.agg #[.int .u8 k, .int .i64 m, .int .i64 l, .int .i64 s, .int .i64 t, .int .i64 c, .int .i64 i, .int .i64 g], .int .i64 mode, .int .i64 size, .int .i64 now, .int .i64 thn] w fun e w' => e = .returned (.bool true) ∧ Below w.heap.size w w' := by
  go_enter Try.func6, Try.ntmps6
  go_wp2_with fail
  refine (awake_any _).mono ?_
  rintro e w1 ⟨rfl, hb1⟩
  have A := (AttAt.new w k m l s t c i g).next hb1
  have hz1 : w.heap.size < w1.heap.size := by have := hb1.size; simp at this; omega
  have hw1 : Below w.heap.size w w1 := btA (Below.refl _ _) hb1
  clear hb1
  have qA := A.cell
  go_wp2_with fail
  refine (planV k m l s t c i g mode size (-1) now K M L S T C I G 0 _ H.out).mono ?_
  rintro e w3 ⟨rfl, hb3⟩
  have hw3 := bt hw1 hb3
  clear hb3 qA
  go_wp2_with fail
  refine (planV K M L S T C I G mode size (-1) thn K2 M2 L2 S2 T2 C2 I2 G2 1 _ H2.out).mono ?_
  rintro e w4 ⟨rfl, hb4⟩
  have D := ((AttAt.new w3 K M L S T C I G).next hb4)
  have hz4 : w3.heap.size < w4.heap.size := by have := hb4.size; simp at this; omega
  have hw4 := btA hw3 hb4
  clear hb4 hw3
  have qD := D.cell
  go_wp2_with fail
  go_ret
  exact ⟨rfl, hw4.alloc hw4.size _⟩
set_option maxHeartbeats 1000000 in
theorem twice_g4_e4 (k m l s t c i g mode size now thn : Int) (w : World) (g1 : 0 ≤ now) (g2 : now ≤ 2147483647) (g3 : c < 0) (K M L S T C I G : Int) (h3 : 0 ≤ thn) (h4 : thn ≤ 2147483647) (H : Hid (planF ⟨k, m, l, s, t, c, i, g⟩ mode size (-1) now = (⟨K, M, L, S, T, C, I, G⟩, 0))) (K2 M2 L2 S2 T2 C2 I2 G2 : Int) (H2 : Hid (planF ⟨K, M, L, S, T, C, I, G⟩ mode size (-1) thn = (⟨K2, M2, L2, S2, T2, C2, I2, G2⟩, 0))) (hs : Hid (sameF ⟨K, M, L, S, T, C, I, G⟩ ⟨K2, M2, L2, S2, T2, C2, I2, G2⟩ = true)) :
    Calls Try.prog 6 #[.agg #[.int .u8 k, .int .i64 m, .int .i64 l, .int .i64 s, .int .i64 t, .int .i64 c, .int .i64 i, .int .i64 g], .int .i64 mode, .int .i64 size, .int .i64 now, .int .i64 thn] w fun e w' => e = .returned (.bool true) ∧ Below w.heap.size w w' := by
  go_enter Try.func6, Try.ntmps6
  go_wp2_with fail
  refine (awake_any _).mono ?_
  rintro e w1 ⟨rfl, hb1⟩
  have A := (AttAt.new w k m l s t c i g).next hb1
  have hz1 : w.heap.size < w1.heap.size := by have := hb1.size; simp at this; omega
  have hw1 : Below w.heap.size w w1 := btA (Below.refl _ _) hb1
  clear hb1
  have qA := A.cell
  go_wp2_with fail
  refine (planV k m l s t c i g mode size (-1) now K M L S T C I G 0 _ H.out).mono ?_
  rintro e w3 ⟨rfl, hb3⟩
  have hw3 := bt hw1 hb3
  clear hb3 qA
  go_wp2_with fail
  refine (planV K M L S T C I G mode size (-1) thn K2 M2 L2 S2 T2 C2 I2 G2 0 _ H2.out).mono ?_
  rintro e w4 ⟨rfl, hb4⟩
  have D := ((AttAt.new w3 K M L S T C I G).next hb4)
  have hz4 : w3.heap.size < w4.heap.size := by have := hb4.size; simp at this; omega
  have hw4 := btA hw3 hb4
  clear hb4 hw3
  have qD := D.cell
  go_wp2_with fail
  refine (same_lit K M L S T C I G K2 M2 L2 S2 T2 C2 I2 G2 true _ hs.out).mono ?_
  rintro e w5 ⟨rfl, hb5⟩
  go_wp2_with fail
  go_ret
  exact ⟨rfl, bt (hw4.alloc hw4.size _) hb5⟩

theorem attrTwice_any (k m l s t c i g mode size now thn : Int) (w : World) :
    Calls Try.prog 6 #[.agg #[.int .u8 k, .int .i64 m, .int .i64 l, .int .i64 s, .int .i64 t, .int .i64 c, .int .i64 i, .int .i64 g], .int .i64 mode, .int .i64 size, .int .i64 now, .int .i64 thn] w fun e w' => e = .returned (.bool true) ∧ Below w.heap.size w w' := by
  obtain ⟨⟨K, M, L, S, T, C, I, G⟩, E, h⟩ : ∃ r E, planF ⟨k, m, l, s, t, c, i, g⟩ mode size (-1) now = (r, E) := ⟨_, _, rfl⟩
  have hg : (0 ≤ now ∧ now ≤ 2147483647 ∧ 0 ≤ c) ∨ now < 0 ∨ (0 ≤ now ∧ 2147483647 < now) ∨ (0 ≤ now ∧ now ≤ 2147483647 ∧ c < 0) := by omega
  by_cases hE : E = 0
  · subst hE
    have ht := twice_then ⟨k, m, l, s, t, c, i, g⟩ mode size now thn (by rw [h])
    rw [h] at ht
    simp only at ht
    obtain ⟨⟨K2, M2, L2, S2, T2, C2, I2, G2⟩, E2, h2⟩ : ∃ r E, planF ⟨K, M, L, S, T, C, I, G⟩ mode size (-1) thn = (r, E) := ⟨_, _, rfl⟩
    rw [h2] at ht
    simp only at ht
    by_cases h3 : thn < 0
    · obtain rfl : E2 = 1 := ht.1 (.inl h3)
      rcases hg with ⟨g1, g2, g3⟩ | g1 | ⟨g0, g1⟩ | ⟨g1, g2, g3⟩
      · exact twice_g1_e2 k m l s t c i g mode size now thn w g1 g2 g3 K M L S T C I G h3 h _ _ _ _ _ _ _ _ h2
      · exact twice_g2_e2 k m l s t c i g mode size now thn w g1 K M L S T C I G h3 h _ _ _ _ _ _ _ _ h2
      · exact twice_g3_e2 k m l s t c i g mode size now thn w g0 g1 K M L S T C I G h3 h _ _ _ _ _ _ _ _ h2
      · exact twice_g4_e2 k m l s t c i g mode size now thn w g1 g2 g3 K M L S T C I G h3 h _ _ _ _ _ _ _ _ h2
    · by_cases h4 : 2147483647 < thn
      · obtain rfl : E2 = 1 := ht.1 (.inr h4)
        rcases hg with ⟨g1, g2, g3⟩ | g1 | ⟨g0, g1⟩ | ⟨g1, g2, g3⟩
        · exact twice_g1_e3 k m l s t c i g mode size now thn w g1 g2 g3 K M L S T C I G (by omega) h4 h _ _ _ _ _ _ _ _ h2
        · exact twice_g2_e3 k m l s t c i g mode size now thn w g1 K M L S T C I G (by omega) h4 h _ _ _ _ _ _ _ _ h2
        · exact twice_g3_e3 k m l s t c i g mode size now thn w g0 g1 K M L S T C I G (by omega) h4 h _ _ _ _ _ _ _ _ h2
        · exact twice_g4_e3 k m l s t c i g mode size now thn w g1 g2 g3 K M L S T C I G (by omega) h4 h _ _ _ _ _ _ _ _ h2
      · obtain ⟨rfl, hs⟩ := ht.2 (by omega)
        rcases hg with ⟨g1, g2, g3⟩ | g1 | ⟨g0, g1⟩ | ⟨g1, g2, g3⟩
        · exact twice_g1_e4 k m l s t c i g mode size now thn w g1 g2 g3 K M L S T C I G (by omega) (by omega) h _ _ _ _ _ _ _ _ h2 hs
        · exact twice_g2_e4 k m l s t c i g mode size now thn w g1 K M L S T C I G (by omega) (by omega) h _ _ _ _ _ _ _ _ h2 hs
        · exact twice_g3_e4 k m l s t c i g mode size now thn w g0 g1 K M L S T C I G (by omega) (by omega) h _ _ _ _ _ _ _ _ h2 hs
        · exact twice_g4_e4 k m l s t c i g mode size now thn w g1 g2 g3 K M L S T C I G (by omega) (by omega) h _ _ _ _ _ _ _ _ h2 hs
  · have hz := twice_bad ⟨k, m, l, s, t, c, i, g⟩ mode size (-1) now (by rw [h]; exact hE)
    rw [h] at hz
    have e : (⟨K, M, L, S, T, C, I, G⟩ : Att) = ⟨0, 0, 0, 0, 0, 0, 0, 0⟩ := hz
    rw [e] at h
    have hE' : (E != 0) = true := by simp [hE]
    rcases hg with ⟨g1, g2, g3⟩ | g1 | ⟨g0, g1⟩ | ⟨g1, g2, g3⟩
    · exact twice_g1_e1 k m l s t c i g mode size now thn w g1 g2 g3 E hE' h
    · exact twice_g2_e1 k m l s t c i g mode size now thn w g1 E hE' h
    · exact twice_g3_e1 k m l s t c i g mode size now thn w g0 g1 E hE' h
    · exact twice_g4_e1 k m l s t c i g mode size now thn w g1 g2 g3 E hE' h

end Go.Proofs.Ytkdemfahabnbjaa
