/- What is new. -/
import Derived.Test.YtochpjoanldfpaaWd
namespace Go.Proofs.Ytochpjoanldfpaa
open Go.RowKit
theorem retA_mk2 {k m l s t c i g E : Int} {r : Att × Int} {w w' : World} (h : r = (⟨k, m, l, s, t, c, i, g⟩, E)) (b : Nat) (hb : Below w.heap.size w w') (hl : w.heap.size ≤ b) (v0 v1 v2 v3 v4 v5 v6 v7 : Value) :
    RetA r w (.returned (.tuple #[.agg #[.int .u8 k, .int .i64 m, .int .i64 l, .int .i64 s, .int .i64 t, .int .i64 c, .int .i64 i, .int .i64 g], .int .i64 E])) ((((((((w'.setCell ⟨b, 0, none⟩ v0).setCell ⟨b, 1, none⟩ v1).setCell ⟨b, 2, none⟩ v2).setCell ⟨b, 3, none⟩ v3).setCell ⟨b, 4, none⟩ v4).setCell ⟨b, 5, none⟩ v5).setCell ⟨b, 6, none⟩ v6).setCell ⟨b, 7, none⟩ v7) := by
  refine retA_mk h ?_
  exact (((((((hb.setCell hl _).setCell hl _).setCell hl _).setCell hl _).setCell hl _).setCell hl _).setCell hl _).setCell hl _

set_option maxHeartbeats 4000000 in
theorem new2 (m i g n : Int) (w : World) : Calls Try.prog 8 #[.int .u8 2, .int .i64 m, .int .i64 i, .int .i64 g, .int .i64 n] w (RetA (newF 2 m i g n) w) := by
  go_enter Try.func8, Try.ntmps8
  go_wp2_with fail
  refine (may_any _ _ _ _ _ _ _ _ _).mono ?_
  rintro e w1 ⟨rfl, hb⟩
  have R0 : RowAt w1 w.heap.size 23 (Att.cells Att.zero) := ((RowAt.new w 23 (Att.cells Att.zero)).alloc _).next hb
  have R1 : RowAt w1 (w.heap.size + 1) 23 (Att.cells ⟨2, m, 2, 0, n, n, i, g⟩) := by
    have := (RowAt.new (w.alloc (.cells (Att.cells Att.zero).toArray 23)) 23 (Att.cells ⟨2, m, 2, 0, n, n, i, g⟩)).next hb
    simpa only [World.size_alloc] using this
  have hw : Below w.heap.size w w1 := bt (below2 w _ _) hb
  have a0 := R0.cell 0
  have f0 := R0.free 0
  have c0 := R1.cell 0
  have a1 := R0.cell 1
  have f1 := R0.free 1
  have c1 := R1.cell 1
  have a2 := R0.cell 2
  have f2 := R0.free 2
  have c2 := R1.cell 2
  have a3 := R0.cell 3
  have f3 := R0.free 3
  have c3 := R1.cell 3
  have a4 := R0.cell 4
  have f4 := R0.free 4
  have c4 := R1.cell 4
  have a5 := R0.cell 5
  have f5 := R0.free 5
  have c5 := R1.cell 5
  have a6 := R0.cell 6
  have f6 := R0.free 6
  have c6 := R1.cell 6
  have a7 := R0.cell 7
  have f7 := R0.free 7
  have c7 := R1.cell 7
  simp only [Att.cells, Att.zero] at a0 a1 a2 a3 a4 a5 a6 a7 c0 c1 c2 c3 c4 c5 c6 c7
  simp at a0 a1 a2 a3 a4 a5 a6 a7 c0 c1 c2 c3 c4 c5 c6 c7
  clear hb R0 R1
  go_wp2
  all_goals (refine bodyPost_ret (by simp [results, Try.results8, go_sem, a0, a1, a2, a3, a4, a5, a6, a7]; rfl) rfl ?_)
  all_goals (refine retA_mk2 ?_ w.heap.size hw (Nat.le_refl _) _ _ _ _ _ _ _ _)
  all_goals (simp_all [newF, Att.zero])

set_option maxHeartbeats 4000000 in
theorem new1 (k m i g n : Int) (w : World) (hk : ¬ k = 2) : Calls Try.prog 8 #[.int .u8 k, .int .i64 m, .int .i64 i, .int .i64 g, .int .i64 n] w (RetA (newF k m i g n) w) := by
  go_enter Try.func8, Try.ntmps8
  go_wp2_with fail
  refine (may_any _ _ _ _ _ _ _ _ _).mono ?_
  rintro e w1 ⟨rfl, hb⟩
  have R0 : RowAt w1 w.heap.size 23 (Att.cells Att.zero) := ((RowAt.new w 23 (Att.cells Att.zero)).alloc _).next hb
  have R1 : RowAt w1 (w.heap.size + 1) 23 (Att.cells ⟨k, m, 1, 0, n, n, i, g⟩) := by
    have := (RowAt.new (w.alloc (.cells (Att.cells Att.zero).toArray 23)) 23 (Att.cells ⟨k, m, 1, 0, n, n, i, g⟩)).next hb
    simpa only [World.size_alloc] using this
  have hw : Below w.heap.size w w1 := bt (below2 w _ _) hb
  have a0 := R0.cell 0
  have f0 := R0.free 0
  have c0 := R1.cell 0
  have a1 := R0.cell 1
  have f1 := R0.free 1
  have c1 := R1.cell 1
  have a2 := R0.cell 2
  have f2 := R0.free 2
  have c2 := R1.cell 2
  have a3 := R0.cell 3
  have f3 := R0.free 3
  have c3 := R1.cell 3
  have a4 := R0.cell 4
  have f4 := R0.free 4
  have c4 := R1.cell 4
  have a5 := R0.cell 5
  have f5 := R0.free 5
  have c5 := R1.cell 5
  have a6 := R0.cell 6
  have f6 := R0.free 6
  have c6 := R1.cell 6
  have a7 := R0.cell 7
  have f7 := R0.free 7
  have c7 := R1.cell 7
  simp only [Att.cells, Att.zero] at a0 a1 a2 a3 a4 a5 a6 a7 c0 c1 c2 c3 c4 c5 c6 c7
  simp at a0 a1 a2 a3 a4 a5 a6 a7 c0 c1 c2 c3 c4 c5 c6 c7
  clear hb R0 R1
  go_wp2
  all_goals (refine bodyPost_ret (by simp [results, Try.results8, go_sem, a0, a1, a2, a3, a4, a5, a6, a7]; rfl) rfl ?_)
  all_goals (refine retA_mk2 ?_ w.heap.size hw (Nat.le_refl _) _ _ _ _ _ _ _ _)
  all_goals (simp_all [newF, Att.zero])

set_option maxHeartbeats 4000000 in
theorem newR2 (m i g n : Int) (w : World) : Calls Try.prog 9 #[.int .u8 2, .int .i64 m, .int .i64 i, .int .i64 g, .int .i64 n] w (RetA (newF 2 m i g n) w) := by
  go_enter Try.func9, Try.ntmps9
  go_wp2_with fail
  refine (mayR_any _ _ _ _ _ _ _ _ _).mono ?_
  rintro e w1 ⟨rfl, hb⟩
  have R0 : RowAt w1 w.heap.size 23 (Att.cells Att.zero) := ((RowAt.new w 23 (Att.cells Att.zero)).alloc _).next hb
  have R1 : RowAt w1 (w.heap.size + 1) 23 (Att.cells ⟨2, m, 2, 0, n, n, i, g⟩) := by
    have := (RowAt.new (w.alloc (.cells (Att.cells Att.zero).toArray 23)) 23 (Att.cells ⟨2, m, 2, 0, n, n, i, g⟩)).next hb
    simpa only [World.size_alloc] using this
  have hw : Below w.heap.size w w1 := bt (below2 w _ _) hb
  have a0 := R0.cell 0
  have f0 := R0.free 0
  have c0 := R1.cell 0
  have a1 := R0.cell 1
  have f1 := R0.free 1
  have c1 := R1.cell 1
  have a2 := R0.cell 2
  have f2 := R0.free 2
  have c2 := R1.cell 2
  have a3 := R0.cell 3
  have f3 := R0.free 3
  have c3 := R1.cell 3
  have a4 := R0.cell 4
  have f4 := R0.free 4
  have c4 := R1.cell 4
  have a5 := R0.cell 5
  have f5 := R0.free 5
  have c5 := R1.cell 5
  have a6 := R0.cell 6
  have f6 := R0.free 6
  have c6 := R1.cell 6
  have a7 := R0.cell 7
  have f7 := R0.free 7
  have c7 := R1.cell 7
  simp only [Att.cells, Att.zero] at a0 a1 a2 a3 a4 a5 a6 a7 c0 c1 c2 c3 c4 c5 c6 c7
  simp at a0 a1 a2 a3 a4 a5 a6 a7 c0 c1 c2 c3 c4 c5 c6 c7
  clear hb R0 R1
  go_wp2
  all_goals (refine bodyPost_ret (by simp [results, Try.results9, go_sem, a0, a1, a2, a3, a4, a5, a6, a7]; rfl) rfl ?_)
  all_goals (refine retA_mk2 ?_ w.heap.size hw (Nat.le_refl _) _ _ _ _ _ _ _ _)
  all_goals (simp_all [newF, Att.zero])

set_option maxHeartbeats 4000000 in
theorem newR1 (k m i g n : Int) (w : World) (hk : ¬ k = 2) : Calls Try.prog 9 #[.int .u8 k, .int .i64 m, .int .i64 i, .int .i64 g, .int .i64 n] w (RetA (newF k m i g n) w) := by
  go_enter Try.func9, Try.ntmps9
  go_wp2_with fail
  refine (mayR_any _ _ _ _ _ _ _ _ _).mono ?_
  rintro e w1 ⟨rfl, hb⟩
  have R0 : RowAt w1 w.heap.size 23 (Att.cells Att.zero) := ((RowAt.new w 23 (Att.cells Att.zero)).alloc _).next hb
  have R1 : RowAt w1 (w.heap.size + 1) 23 (Att.cells ⟨k, m, 1, 0, n, n, i, g⟩) := by
    have := (RowAt.new (w.alloc (.cells (Att.cells Att.zero).toArray 23)) 23 (Att.cells ⟨k, m, 1, 0, n, n, i, g⟩)).next hb
    simpa only [World.size_alloc] using this
  have hw : Below w.heap.size w w1 := bt (below2 w _ _) hb
  have a0 := R0.cell 0
  have f0 := R0.free 0
  have c0 := R1.cell 0
  have a1 := R0.cell 1
  have f1 := R0.free 1
  have c1 := R1.cell 1
  have a2 := R0.cell 2
  have f2 := R0.free 2
  have c2 := R1.cell 2
  have a3 := R0.cell 3
  have f3 := R0.free 3
  have c3 := R1.cell 3
  have a4 := R0.cell 4
  have f4 := R0.free 4
  have c4 := R1.cell 4
  have a5 := R0.cell 5
  have f5 := R0.free 5
  have c5 := R1.cell 5
  have a6 := R0.cell 6
  have f6 := R0.free 6
  have c6 := R1.cell 6
  have a7 := R0.cell 7
  have f7 := R0.free 7
  have c7 := R1.cell 7
  simp only [Att.cells, Att.zero] at a0 a1 a2 a3 a4 a5 a6 a7 c0 c1 c2 c3 c4 c5 c6 c7
  simp at a0 a1 a2 a3 a4 a5 a6 a7 c0 c1 c2 c3 c4 c5 c6 c7
  clear hb R0 R1
  go_wp2
  all_goals (refine bodyPost_ret (by simp [results, Try.results9, go_sem, a0, a1, a2, a3, a4, a5, a6, a7]; rfl) rfl ?_)
  all_goals (refine retA_mk2 ?_ w.heap.size hw (Nat.le_refl _) _ _ _ _ _ _ _ _)
  all_goals (simp_all [newF, Att.zero])
theorem new_any (k m i g n : Int) (w : World) : Calls Try.prog 8 #[.int .u8 k, .int .i64 m, .int .i64 i, .int .i64 g, .int .i64 n] w (RetA (newF k m i g n) w) := by
  by_cases hk : k = 2
  · subst hk; exact new2 m i g n w
  · exact new1 k m i g n w hk
theorem newR_any (k m i g n : Int) (w : World) : Calls Try.prog 9 #[.int .u8 k, .int .i64 m, .int .i64 i, .int .i64 g, .int .i64 n] w (RetA (newF k m i g n) w) := by
  by_cases hk : k = 2
  · subst hk; exact newR2 m i g n w
  · exact newR1 k m i g n w hk
end Go.Proofs.Ytochpjoanldfpaa
