/- InodeMay walked: true at every input. -/
import Derived.Test.YtochpjoanldfpaaWi
namespace Go.Proofs.Ytochpjoanldfpaa
open Go.RowKit
set_option linter.unusedVariables false

set_option maxHeartbeats 8000000 in
theorem imay_111 (k m l s t c i g mode size now  : Int) (w : World) (hl0 : 0 ≤ l) (hl9 : l ≤ 2147483647)
    (HM : Hid (mayF ⟨k, m, l, s, t, c, i, g⟩ = true))
    (H2 : Hid (linkedF ⟨k, m, l, s, t, c, i, g⟩ 1 now = (⟨k, m, l + 1, s, t, now, i, g⟩, 0)))
    (H2b : Hid (linkedF ⟨k, m, l + 1, s, t, now, i, g⟩ (-1) now = (⟨k, m, l, s, t, now, i, g⟩, 0)))
    (HM2 : Hid (mayF ⟨k, m, l + 1, s, t, now, i, g⟩ = true))
    (hl1 : l ≤ 2147483646)
    (H3 : Hid (sizedF ⟨k, m, l, s, t, c, i, g⟩ size now = (⟨k, m, l, size, now, now, i, g⟩, 0)))
    (HM3 : Hid (mayF ⟨k, m, l, size, now, now, i, g⟩ = true))
    (H4 : Hid (modedF ⟨k, m, l, s, t, c, i, g⟩ mode now = (⟨k, mode, l, s, t, now, i, g⟩, 0)))
    (HM4 : Hid (mayF ⟨k, mode, l, s, t, now, i, g⟩ = true)) :
    Calls Try.prog 4 #[.agg #[.int .u8 k, .int .i64 m, .int .i64 l, .int .i64 s, .int .i64 t, .int .i64 c, .int .i64 i, .int .i64 g], .int .i64 mode, .int .i64 size, .int .i64 now] w fun e w' => e = .returned (.bool true) ∧ Below w.heap.size w w' := by
  go_enter Try.func4, Try.ntmps4
  go_wp2_with fail
  refine (mayV _ _ _ _ _ _ _ _ true _ HM.out).mono ?_
  rintro e w1 ⟨rfl, hb⟩
  have R := (RowAt.new w 23 [.int .u8 k, .int .i64 m, .int .i64 l, .int .i64 s, .int .i64 t, .int .i64 c, .int .i64 i, .int .i64 g]).next hb
  have hw := bt (b1 w _) hb
  clear hb
  go_wp2_with fail
  refine (awake_any _).mono ?_
  rintro e w2 ⟨rfl, hb⟩
  replace R := R.next hb
  replace hw := bt hw hb
  clear hb
  obtain ⟨ba, hba⟩ : ∃ ba, ba = w.heap.size := ⟨_, rfl⟩
  rw [← hba] at R ⊢
  clear hba
  have p0 := R.cell 0
  have p1 := R.cell 1
  have p2 := R.cell 2
  have p3 := R.cell 3
  have p4 := R.cell 4
  have p5 := R.cell 5
  have p6 := R.cell 6
  have p7 := R.cell 7
  simp at p0 p1 p2 p3 p4 p5 p6 p7
  go_wp2_with fail
  refine (linkedV k m l s t c i g 1 now (k) (m) (l + 1) (s) (t) (now) (i) (g) 0 _ (by omega) (by omega) H2.out).mono ?_
  rintro e w3 ⟨rfl, hb⟩
  clear p0 p1 p2 p3 p4 p5 p6 p7
  replace R := R.next hb
  replace hw := bt hw hb
  have hl3 : w.heap.size ≤ w3.heap.size := hw.size
  have Rlt := R.lt
  clear hb
  have p0 := R.cell 0
  have p1 := R.cell 1
  have p2 := R.cell 2
  have p3 := R.cell 3
  have p4 := R.cell 4
  have p5 := R.cell 5
  have p6 := R.cell 6
  have p7 := R.cell 7
  simp at p0 p1 p2 p3 p4 p5 p6 p7
  go_wp2_with fail
  refine (linkedV k m (l + 1) s t now i g (-1) now (k) (m) (l) (s) (t) (now) (i) (g) 0 _ (by omega) (by omega) H2b.out).mono ?_
  rintro e w4 ⟨rfl, hb⟩
  clear p0 p1 p2 p3 p4 p5 p6 p7
  replace R := (R.alloc _).next hb
  have Bq := (RowAt.new w3 23 [.int .u8 k, .int .i64 m, .int .i64 (l + 1), .int .i64 s, .int .i64 t, .int .i64 now, .int .i64 i, .int .i64 g]).next hb
  replace hw := btA hw hb
  obtain ⟨bb, hbb⟩ : ∃ bb, bb = w3.heap.size := ⟨_, rfl⟩
  rw [← hbb] at Bq hl3 Rlt ⊢
  have hl4 : w.heap.size ≤ w4.heap.size := hw.size
  have Rlt2 := R.lt
  have Blt := Bq.lt
  clear hb hbb
  have p0 := R.cell 0
  have p1 := R.cell 1
  have p2 := R.cell 2
  have p3 := R.cell 3
  have p4 := R.cell 4
  have p5 := R.cell 5
  have p6 := R.cell 6
  have p7 := R.cell 7
  simp at p0 p1 p2 p3 p4 p5 p6 p7
  have q0 := Bq.cell 0
  have q1 := Bq.cell 1
  have q2 := Bq.cell 2
  have q3 := Bq.cell 3
  have q4 := Bq.cell 4
  have q5 := Bq.cell 5
  have q6 := Bq.cell 6
  have q7 := Bq.cell 7
  simp at q0 q1 q2 q3 q4 q5 q6 q7
  go_wp2_with fail
  refine (mayV _ _ _ _ _ _ _ _ true _ HM2.out).mono ?_
  rintro e w5 ⟨rfl, hb⟩
  clear p0 p1 p2 p3 p4 p5 p6 p7
  clear q0 q1 q2 q3 q4 q5 q6 q7
  have Cq := (RowAt.new w4 23 [.int .u8 k, .int .i64 m, .int .i64 l, .int .i64 s, .int .i64 t, .int .i64 c, .int .i64 i, .int .i64 g]).next hb
  replace R := (R.alloc _).next hb
  replace Bq := (Bq.alloc _).next hb
  replace hw := btA hw hb
  obtain ⟨bc, hbc⟩ : ∃ bc, bc = w4.heap.size := ⟨_, rfl⟩
  rw [← hbc] at Cq ⊢
  have nab : ba ≠ bb := by omega
  clear hb hbc
  have p0 := R.cell 0
  have p1 := R.cell 1
  have p2 := R.cell 2
  have p3 := R.cell 3
  have p4 := R.cell 4
  have p5 := R.cell 5
  have p6 := R.cell 6
  have p7 := R.cell 7
  simp at p0 p1 p2 p3 p4 p5 p6 p7
  have q0 := Bq.cell 0
  have q1 := Bq.cell 1
  have q2 := Bq.cell 2
  have q3 := Bq.cell 3
  have q4 := Bq.cell 4
  have q5 := Bq.cell 5
  have q6 := Bq.cell 6
  have q7 := Bq.cell 7
  have qf0 := Bq.free 0
  have qf1 := Bq.free 1
  have qf2 := Bq.free 2
  have qf3 := Bq.free 3
  have qf4 := Bq.free 4
  have qf5 := Bq.free 5
  have qf6 := Bq.free 6
  have qf7 := Bq.free 7
  simp at q0 q1 q2 q3 q4 q5 q6 q7
  have r0 := Cq.cell 0
  have r1 := Cq.cell 1
  have r2 := Cq.cell 2
  have r3 := Cq.cell 3
  have r4 := Cq.cell 4
  have r5 := Cq.cell 5
  have r6 := Cq.cell 6
  have r7 := Cq.cell 7
  simp at r0 r1 r2 r3 r4 r5 r6 r7
  go_wp2_with fail
  refine (sizedV k m l s t c i g size now (k) (m) (l) (size) (now) (now) (i) (g) 0 _ H3.out).mono ?_
  rintro e w6 ⟨rfl, hb⟩
  clear p0 p1 p2 p3 p4 p5 p6 p7
  clear q0 q1 q2 q3 q4 q5 q6 q7 qf0 qf1 qf2 qf3 qf4 qf5 qf6 qf7
  clear r0 r1 r2 r3 r4 r5 r6 r7 Cq
  replace R := R.next hb
  replace Bq := Bq.next hb
  replace hw := bt hw hb
  clear hb
  have p0 := R.cell 0
  have p1 := R.cell 1
  have p2 := R.cell 2
  have p3 := R.cell 3
  have p4 := R.cell 4
  have p5 := R.cell 5
  have p6 := R.cell 6
  have p7 := R.cell 7
  simp at p0 p1 p2 p3 p4 p5 p6 p7
  have q0 := Bq.cell 0
  have q1 := Bq.cell 1
  have q2 := Bq.cell 2
  have q3 := Bq.cell 3
  have q4 := Bq.cell 4
  have q5 := Bq.cell 5
  have q6 := Bq.cell 6
  have q7 := Bq.cell 7
  have qf0 := Bq.free 0
  have qf1 := Bq.free 1
  have qf2 := Bq.free 2
  have qf3 := Bq.free 3
  have qf4 := Bq.free 4
  have qf5 := Bq.free 5
  have qf6 := Bq.free 6
  have qf7 := Bq.free 7
  simp at q0 q1 q2 q3 q4 q5 q6 q7
  go_wp2_with fail
  refine (mayV _ _ _ _ _ _ _ _ true _ HM3.out).mono ?_
  rintro e w7 ⟨rfl, hb⟩
  clear p0 p1 p2 p3 p4 p5 p6 p7
  clear q0 q1 q2 q3 q4 q5 q6 q7 qf0 qf1 qf2 qf3 qf4 qf5 qf6 qf7
  replace R := (R.set8o nab (.int .u8 (k)) (.int .i64 (m)) (.int .i64 (l)) (.int .i64 (size)) (.int .i64 (now)) (.int .i64 (now)) (.int .i64 (i)) (.int .i64 (g))).next hb
  replace Bq := (Bq.set8 (.int .u8 (k)) (.int .i64 (m)) (.int .i64 (l)) (.int .i64 (size)) (.int .i64 (now)) (.int .i64 (now)) (.int .i64 (i)) (.int .i64 (g))).next hb
  replace hw := bt (below_set8 hw hl3 (.int .u8 (k)) (.int .i64 (m)) (.int .i64 (l)) (.int .i64 (size)) (.int .i64 (now)) (.int .i64 (now)) (.int .i64 (i)) (.int .i64 (g))) hb
  clear hb
  have p0 := R.cell 0
  have p1 := R.cell 1
  have p2 := R.cell 2
  have p3 := R.cell 3
  have p4 := R.cell 4
  have p5 := R.cell 5
  have p6 := R.cell 6
  have p7 := R.cell 7
  simp at p0 p1 p2 p3 p4 p5 p6 p7
  have q0 := Bq.cell 0
  have q1 := Bq.cell 1
  have q2 := Bq.cell 2
  have q3 := Bq.cell 3
  have q4 := Bq.cell 4
  have q5 := Bq.cell 5
  have q6 := Bq.cell 6
  have q7 := Bq.cell 7
  have qf0 := Bq.free 0
  have qf1 := Bq.free 1
  have qf2 := Bq.free 2
  have qf3 := Bq.free 3
  have qf4 := Bq.free 4
  have qf5 := Bq.free 5
  have qf6 := Bq.free 6
  have qf7 := Bq.free 7
  simp at q0 q1 q2 q3 q4 q5 q6 q7
  go_wp2_with fail
  go_region
  clear p0 p1 p2 p3 p4 p5 p6 p7
  clear q0 q1 q2 q3 q4 q5 q6 q7 qf0 qf1 qf2 qf3 qf4 qf5 qf6 qf7
  replace R := (((R.other 3 (.int .i64 s) nab).other 4 (.int .i64 t) nab).other 5 (.int .i64 c) nab).drew
  replace Bq := (((Bq.set 3 (.int .i64 s)).set 4 (.int .i64 t)).set 5 (.int .i64 c)).drew
  simp only [List.set_cons_succ, List.set_cons_zero] at Bq
  replace hw := (((hw.setCell (p := ⟨bb, 3, none⟩) hl3 (.int .i64 s)).setCell (p := ⟨bb, 4, none⟩) hl3 (.int .i64 t)).setCell (p := ⟨bb, 5, none⟩) hl3 (.int .i64 c)).drew
  generalize hWe : World.drew _ = W8 at *
  clear hWe
  have p0 := R.cell 0
  have p1 := R.cell 1
  have p2 := R.cell 2
  have p3 := R.cell 3
  have p4 := R.cell 4
  have p5 := R.cell 5
  have p6 := R.cell 6
  have p7 := R.cell 7
  simp at p0 p1 p2 p3 p4 p5 p6 p7
  have q0 := Bq.cell 0
  have q1 := Bq.cell 1
  have q2 := Bq.cell 2
  have q3 := Bq.cell 3
  have q4 := Bq.cell 4
  have q5 := Bq.cell 5
  have q6 := Bq.cell 6
  have q7 := Bq.cell 7
  have qf0 := Bq.free 0
  have qf1 := Bq.free 1
  have qf2 := Bq.free 2
  have qf3 := Bq.free 3
  have qf4 := Bq.free 4
  have qf5 := Bq.free 5
  have qf6 := Bq.free 6
  have qf7 := Bq.free 7
  simp at q0 q1 q2 q3 q4 q5 q6 q7
  go_wp2_with fail
  refine (modedV k m l s t c i g mode now (k) (mode) (l) (s) (t) (now) (i) (g) 0 _ H4.out).mono ?_
  rintro e w9 ⟨rfl, hb⟩
  clear p0 p1 p2 p3 p4 p5 p6 p7
  clear q0 q1 q2 q3 q4 q5 q6 q7 qf0 qf1 qf2 qf3 qf4 qf5 qf6 qf7
  replace R := R.next hb
  replace Bq := Bq.next hb
  replace hw := bt hw hb
  clear hb
  have p0 := R.cell 0
  have p1 := R.cell 1
  have p2 := R.cell 2
  have p3 := R.cell 3
  have p4 := R.cell 4
  have p5 := R.cell 5
  have p6 := R.cell 6
  have p7 := R.cell 7
  simp at p0 p1 p2 p3 p4 p5 p6 p7
  have q0 := Bq.cell 0
  have q1 := Bq.cell 1
  have q2 := Bq.cell 2
  have q3 := Bq.cell 3
  have q4 := Bq.cell 4
  have q5 := Bq.cell 5
  have q6 := Bq.cell 6
  have q7 := Bq.cell 7
  have qf0 := Bq.free 0
  have qf1 := Bq.free 1
  have qf2 := Bq.free 2
  have qf3 := Bq.free 3
  have qf4 := Bq.free 4
  have qf5 := Bq.free 5
  have qf6 := Bq.free 6
  have qf7 := Bq.free 7
  simp at q0 q1 q2 q3 q4 q5 q6 q7
  go_wp2_with fail
  refine (mayV _ _ _ _ _ _ _ _ true _ HM4.out).mono ?_
  rintro e w10 ⟨rfl, hb⟩
  clear p0 p1 p2 p3 p4 p5 p6 p7
  clear q0 q1 q2 q3 q4 q5 q6 q7 qf0 qf1 qf2 qf3 qf4 qf5 qf6 qf7
  replace R := (R.set8o nab (.int .u8 (k)) (.int .i64 (mode)) (.int .i64 (l)) (.int .i64 (s)) (.int .i64 (t)) (.int .i64 (now)) (.int .i64 (i)) (.int .i64 (g))).next hb
  replace Bq := (Bq.set8 (.int .u8 (k)) (.int .i64 (mode)) (.int .i64 (l)) (.int .i64 (s)) (.int .i64 (t)) (.int .i64 (now)) (.int .i64 (i)) (.int .i64 (g))).next hb
  replace hw := bt (below_set8 hw hl3 (.int .u8 (k)) (.int .i64 (mode)) (.int .i64 (l)) (.int .i64 (s)) (.int .i64 (t)) (.int .i64 (now)) (.int .i64 (i)) (.int .i64 (g))) hb
  clear hb
  have p0 := R.cell 0
  have p1 := R.cell 1
  have p2 := R.cell 2
  have p3 := R.cell 3
  have p4 := R.cell 4
  have p5 := R.cell 5
  have p6 := R.cell 6
  have p7 := R.cell 7
  simp at p0 p1 p2 p3 p4 p5 p6 p7
  have q0 := Bq.cell 0
  have q1 := Bq.cell 1
  have q2 := Bq.cell 2
  have q3 := Bq.cell 3
  have q4 := Bq.cell 4
  have q5 := Bq.cell 5
  have q6 := Bq.cell 6
  have q7 := Bq.cell 7
  have qf0 := Bq.free 0
  have qf1 := Bq.free 1
  have qf2 := Bq.free 2
  have qf3 := Bq.free 3
  have qf4 := Bq.free 4
  have qf5 := Bq.free 5
  have qf6 := Bq.free 6
  have qf7 := Bq.free 7
  simp at q0 q1 q2 q3 q4 q5 q6 q7
  go_wp2_with fail
  go_region
  clear p0 p1 p2 p3 p4 p5 p6 p7
  clear q0 q1 q2 q3 q4 q5 q6 q7 qf0 qf1 qf2 qf3 qf4 qf5 qf6 qf7
  replace R := ((R.other 1 (.int .i64 m) nab).other 5 (.int .i64 c) nab).drew
  replace Bq := ((Bq.set 1 (.int .i64 m)).set 5 (.int .i64 c)).drew
  simp only [List.set_cons_succ, List.set_cons_zero] at Bq
  replace hw := ((hw.setCell (p := ⟨bb, 1, none⟩) hl3 (.int .i64 m)).setCell (p := ⟨bb, 5, none⟩) hl3 (.int .i64 c)).drew
  generalize hWe : World.drew _ = W9 at *
  clear hWe
  have p0 := R.cell 0
  have p1 := R.cell 1
  have p2 := R.cell 2
  have p3 := R.cell 3
  have p4 := R.cell 4
  have p5 := R.cell 5
  have p6 := R.cell 6
  have p7 := R.cell 7
  simp at p0 p1 p2 p3 p4 p5 p6 p7
  have q0 := Bq.cell 0
  have q1 := Bq.cell 1
  have q2 := Bq.cell 2
  have q3 := Bq.cell 3
  have q4 := Bq.cell 4
  have q5 := Bq.cell 5
  have q6 := Bq.cell 6
  have q7 := Bq.cell 7
  simp at q0 q1 q2 q3 q4 q5 q6 q7
  go_wp2
  go_ret
  exact ⟨rfl, hw⟩

set_option maxHeartbeats 8000000 in
theorem imay_110 (k m l s t c i g mode size now E4 : Int) (w : World) (hl0 : 0 ≤ l) (hl9 : l ≤ 2147483647)
    (HM : Hid (mayF ⟨k, m, l, s, t, c, i, g⟩ = true))
    (H2 : Hid (linkedF ⟨k, m, l, s, t, c, i, g⟩ 1 now = (⟨k, m, l + 1, s, t, now, i, g⟩, 0)))
    (H2b : Hid (linkedF ⟨k, m, l + 1, s, t, now, i, g⟩ (-1) now = (⟨k, m, l, s, t, now, i, g⟩, 0)))
    (HM2 : Hid (mayF ⟨k, m, l + 1, s, t, now, i, g⟩ = true))
    (hl1 : l ≤ 2147483646)
    (H3 : Hid (sizedF ⟨k, m, l, s, t, c, i, g⟩ size now = (⟨k, m, l, size, now, now, i, g⟩, 0)))
    (HM3 : Hid (mayF ⟨k, m, l, size, now, now, i, g⟩ = true))
    (H4 : Hid (modedF ⟨k, m, l, s, t, c, i, g⟩ mode now = (⟨0, 0, 0, 0, 0, 0, 0, 0⟩, E4)))
    (hE4 : (E4 == 0) = false) :
    Calls Try.prog 4 #[.agg #[.int .u8 k, .int .i64 m, .int .i64 l, .int .i64 s, .int .i64 t, .int .i64 c, .int .i64 i, .int .i64 g], .int .i64 mode, .int .i64 size, .int .i64 now] w fun e w' => e = .returned (.bool true) ∧ Below w.heap.size w w' := by
  go_enter Try.func4, Try.ntmps4
  go_wp2_with fail
  refine (mayV _ _ _ _ _ _ _ _ true _ HM.out).mono ?_
  rintro e w1 ⟨rfl, hb⟩
  have R := (RowAt.new w 23 [.int .u8 k, .int .i64 m, .int .i64 l, .int .i64 s, .int .i64 t, .int .i64 c, .int .i64 i, .int .i64 g]).next hb
  have hw := bt (b1 w _) hb
  clear hb
  go_wp2_with fail
  refine (awake_any _).mono ?_
  rintro e w2 ⟨rfl, hb⟩
  replace R := R.next hb
  replace hw := bt hw hb
  clear hb
  obtain ⟨ba, hba⟩ : ∃ ba, ba = w.heap.size := ⟨_, rfl⟩
  rw [← hba] at R ⊢
  clear hba
  have p0 := R.cell 0
  have p1 := R.cell 1
  have p2 := R.cell 2
  have p3 := R.cell 3
  have p4 := R.cell 4
  have p5 := R.cell 5
  have p6 := R.cell 6
  have p7 := R.cell 7
  simp at p0 p1 p2 p3 p4 p5 p6 p7
  go_wp2_with fail
  refine (linkedV k m l s t c i g 1 now (k) (m) (l + 1) (s) (t) (now) (i) (g) 0 _ (by omega) (by omega) H2.out).mono ?_
  rintro e w3 ⟨rfl, hb⟩
  clear p0 p1 p2 p3 p4 p5 p6 p7
  replace R := R.next hb
  replace hw := bt hw hb
  have hl3 : w.heap.size ≤ w3.heap.size := hw.size
  have Rlt := R.lt
  clear hb
  have p0 := R.cell 0
  have p1 := R.cell 1
  have p2 := R.cell 2
  have p3 := R.cell 3
  have p4 := R.cell 4
  have p5 := R.cell 5
  have p6 := R.cell 6
  have p7 := R.cell 7
  simp at p0 p1 p2 p3 p4 p5 p6 p7
  go_wp2_with fail
  refine (linkedV k m (l + 1) s t now i g (-1) now (k) (m) (l) (s) (t) (now) (i) (g) 0 _ (by omega) (by omega) H2b.out).mono ?_
  rintro e w4 ⟨rfl, hb⟩
  clear p0 p1 p2 p3 p4 p5 p6 p7
  replace R := (R.alloc _).next hb
  have Bq := (RowAt.new w3 23 [.int .u8 k, .int .i64 m, .int .i64 (l + 1), .int .i64 s, .int .i64 t, .int .i64 now, .int .i64 i, .int .i64 g]).next hb
  replace hw := btA hw hb
  obtain ⟨bb, hbb⟩ : ∃ bb, bb = w3.heap.size := ⟨_, rfl⟩
  rw [← hbb] at Bq hl3 Rlt ⊢
  have hl4 : w.heap.size ≤ w4.heap.size := hw.size
  have Rlt2 := R.lt
  have Blt := Bq.lt
  clear hb hbb
  have p0 := R.cell 0
  have p1 := R.cell 1
  have p2 := R.cell 2
  have p3 := R.cell 3
  have p4 := R.cell 4
  have p5 := R.cell 5
  have p6 := R.cell 6
  have p7 := R.cell 7
  simp at p0 p1 p2 p3 p4 p5 p6 p7
  have q0 := Bq.cell 0
  have q1 := Bq.cell 1
  have q2 := Bq.cell 2
  have q3 := Bq.cell 3
  have q4 := Bq.cell 4
  have q5 := Bq.cell 5
  have q6 := Bq.cell 6
  have q7 := Bq.cell 7
  simp at q0 q1 q2 q3 q4 q5 q6 q7
  go_wp2_with fail
  refine (mayV _ _ _ _ _ _ _ _ true _ HM2.out).mono ?_
  rintro e w5 ⟨rfl, hb⟩
  clear p0 p1 p2 p3 p4 p5 p6 p7
  clear q0 q1 q2 q3 q4 q5 q6 q7
  have Cq := (RowAt.new w4 23 [.int .u8 k, .int .i64 m, .int .i64 l, .int .i64 s, .int .i64 t, .int .i64 c, .int .i64 i, .int .i64 g]).next hb
  replace R := (R.alloc _).next hb
  replace Bq := (Bq.alloc _).next hb
  replace hw := btA hw hb
  obtain ⟨bc, hbc⟩ : ∃ bc, bc = w4.heap.size := ⟨_, rfl⟩
  rw [← hbc] at Cq ⊢
  have nab : ba ≠ bb := by omega
  clear hb hbc
  have p0 := R.cell 0
  have p1 := R.cell 1
  have p2 := R.cell 2
  have p3 := R.cell 3
  have p4 := R.cell 4
  have p5 := R.cell 5
  have p6 := R.cell 6
  have p7 := R.cell 7
  simp at p0 p1 p2 p3 p4 p5 p6 p7
  have q0 := Bq.cell 0
  have q1 := Bq.cell 1
  have q2 := Bq.cell 2
  have q3 := Bq.cell 3
  have q4 := Bq.cell 4
  have q5 := Bq.cell 5
  have q6 := Bq.cell 6
  have q7 := Bq.cell 7
  have qf0 := Bq.free 0
  have qf1 := Bq.free 1
  have qf2 := Bq.free 2
  have qf3 := Bq.free 3
  have qf4 := Bq.free 4
  have qf5 := Bq.free 5
  have qf6 := Bq.free 6
  have qf7 := Bq.free 7
  simp at q0 q1 q2 q3 q4 q5 q6 q7
  have r0 := Cq.cell 0
  have r1 := Cq.cell 1
  have r2 := Cq.cell 2
  have r3 := Cq.cell 3
  have r4 := Cq.cell 4
  have r5 := Cq.cell 5
  have r6 := Cq.cell 6
  have r7 := Cq.cell 7
  simp at r0 r1 r2 r3 r4 r5 r6 r7
  go_wp2_with fail
  refine (sizedV k m l s t c i g size now (k) (m) (l) (size) (now) (now) (i) (g) 0 _ H3.out).mono ?_
  rintro e w6 ⟨rfl, hb⟩
  clear p0 p1 p2 p3 p4 p5 p6 p7
  clear q0 q1 q2 q3 q4 q5 q6 q7 qf0 qf1 qf2 qf3 qf4 qf5 qf6 qf7
  clear r0 r1 r2 r3 r4 r5 r6 r7 Cq
  replace R := R.next hb
  replace Bq := Bq.next hb
  replace hw := bt hw hb
  clear hb
  have p0 := R.cell 0
  have p1 := R.cell 1
  have p2 := R.cell 2
  have p3 := R.cell 3
  have p4 := R.cell 4
  have p5 := R.cell 5
  have p6 := R.cell 6
  have p7 := R.cell 7
  simp at p0 p1 p2 p3 p4 p5 p6 p7
  have q0 := Bq.cell 0
  have q1 := Bq.cell 1
  have q2 := Bq.cell 2
  have q3 := Bq.cell 3
  have q4 := Bq.cell 4
  have q5 := Bq.cell 5
  have q6 := Bq.cell 6
  have q7 := Bq.cell 7
  have qf0 := Bq.free 0
  have qf1 := Bq.free 1
  have qf2 := Bq.free 2
  have qf3 := Bq.free 3
  have qf4 := Bq.free 4
  have qf5 := Bq.free 5
  have qf6 := Bq.free 6
  have qf7 := Bq.free 7
  simp at q0 q1 q2 q3 q4 q5 q6 q7
  go_wp2_with fail
  refine (mayV _ _ _ _ _ _ _ _ true _ HM3.out).mono ?_
  rintro e w7 ⟨rfl, hb⟩
  clear p0 p1 p2 p3 p4 p5 p6 p7
  clear q0 q1 q2 q3 q4 q5 q6 q7 qf0 qf1 qf2 qf3 qf4 qf5 qf6 qf7
  replace R := (R.set8o nab (.int .u8 (k)) (.int .i64 (m)) (.int .i64 (l)) (.int .i64 (size)) (.int .i64 (now)) (.int .i64 (now)) (.int .i64 (i)) (.int .i64 (g))).next hb
  replace Bq := (Bq.set8 (.int .u8 (k)) (.int .i64 (m)) (.int .i64 (l)) (.int .i64 (size)) (.int .i64 (now)) (.int .i64 (now)) (.int .i64 (i)) (.int .i64 (g))).next hb
  replace hw := bt (below_set8 hw hl3 (.int .u8 (k)) (.int .i64 (m)) (.int .i64 (l)) (.int .i64 (size)) (.int .i64 (now)) (.int .i64 (now)) (.int .i64 (i)) (.int .i64 (g))) hb
  clear hb
  have p0 := R.cell 0
  have p1 := R.cell 1
  have p2 := R.cell 2
  have p3 := R.cell 3
  have p4 := R.cell 4
  have p5 := R.cell 5
  have p6 := R.cell 6
  have p7 := R.cell 7
  simp at p0 p1 p2 p3 p4 p5 p6 p7
  have q0 := Bq.cell 0
  have q1 := Bq.cell 1
  have q2 := Bq.cell 2
  have q3 := Bq.cell 3
  have q4 := Bq.cell 4
  have q5 := Bq.cell 5
  have q6 := Bq.cell 6
  have q7 := Bq.cell 7
  have qf0 := Bq.free 0
  have qf1 := Bq.free 1
  have qf2 := Bq.free 2
  have qf3 := Bq.free 3
  have qf4 := Bq.free 4
  have qf5 := Bq.free 5
  have qf6 := Bq.free 6
  have qf7 := Bq.free 7
  simp at q0 q1 q2 q3 q4 q5 q6 q7
  go_wp2_with fail
  go_region
  clear p0 p1 p2 p3 p4 p5 p6 p7
  clear q0 q1 q2 q3 q4 q5 q6 q7 qf0 qf1 qf2 qf3 qf4 qf5 qf6 qf7
  replace R := (((R.other 3 (.int .i64 s) nab).other 4 (.int .i64 t) nab).other 5 (.int .i64 c) nab).drew
  replace Bq := (((Bq.set 3 (.int .i64 s)).set 4 (.int .i64 t)).set 5 (.int .i64 c)).drew
  simp only [List.set_cons_succ, List.set_cons_zero] at Bq
  replace hw := (((hw.setCell (p := ⟨bb, 3, none⟩) hl3 (.int .i64 s)).setCell (p := ⟨bb, 4, none⟩) hl3 (.int .i64 t)).setCell (p := ⟨bb, 5, none⟩) hl3 (.int .i64 c)).drew
  generalize hWe : World.drew _ = W8 at *
  clear hWe
  have p0 := R.cell 0
  have p1 := R.cell 1
  have p2 := R.cell 2
  have p3 := R.cell 3
  have p4 := R.cell 4
  have p5 := R.cell 5
  have p6 := R.cell 6
  have p7 := R.cell 7
  simp at p0 p1 p2 p3 p4 p5 p6 p7
  have q0 := Bq.cell 0
  have q1 := Bq.cell 1
  have q2 := Bq.cell 2
  have q3 := Bq.cell 3
  have q4 := Bq.cell 4
  have q5 := Bq.cell 5
  have q6 := Bq.cell 6
  have q7 := Bq.cell 7
  have qf0 := Bq.free 0
  have qf1 := Bq.free 1
  have qf2 := Bq.free 2
  have qf3 := Bq.free 3
  have qf4 := Bq.free 4
  have qf5 := Bq.free 5
  have qf6 := Bq.free 6
  have qf7 := Bq.free 7
  simp at q0 q1 q2 q3 q4 q5 q6 q7
  go_wp2_with fail
  refine (modedV k m l s t c i g mode now (0) (0) (0) (0) (0) (0) (0) (0) E4 _ H4.out).mono ?_
  rintro e w9 ⟨rfl, hb⟩
  clear p0 p1 p2 p3 p4 p5 p6 p7
  clear q0 q1 q2 q3 q4 q5 q6 q7 qf0 qf1 qf2 qf3 qf4 qf5 qf6 qf7
  replace R := R.next hb
  replace Bq := Bq.next hb
  replace hw := bt hw hb
  clear hb
  have q0 := Bq.cell 0
  have q1 := Bq.cell 1
  have q2 := Bq.cell 2
  have q3 := Bq.cell 3
  have q4 := Bq.cell 4
  have q5 := Bq.cell 5
  have q6 := Bq.cell 6
  have q7 := Bq.cell 7
  have qf0 := Bq.free 0
  have qf1 := Bq.free 1
  have qf2 := Bq.free 2
  have qf3 := Bq.free 3
  have qf4 := Bq.free 4
  have qf5 := Bq.free 5
  have qf6 := Bq.free 6
  have qf7 := Bq.free 7
  simp at q0 q1 q2 q3 q4 q5 q6 q7
  go_wp2
  go_ret
  exact ⟨rfl, below_set8 hw hl3 (.int .u8 (0)) (.int .i64 (0)) (.int .i64 (0)) (.int .i64 (0)) (.int .i64 (0)) (.int .i64 (0)) (.int .i64 (0)) (.int .i64 (0))⟩

set_option maxHeartbeats 8000000 in
theorem imay_101 (k m l s t c i g mode size now E3 : Int) (w : World) (hl0 : 0 ≤ l) (hl9 : l ≤ 2147483647)
    (HM : Hid (mayF ⟨k, m, l, s, t, c, i, g⟩ = true))
    (H2 : Hid (linkedF ⟨k, m, l, s, t, c, i, g⟩ 1 now = (⟨k, m, l + 1, s, t, now, i, g⟩, 0)))
    (H2b : Hid (linkedF ⟨k, m, l + 1, s, t, now, i, g⟩ (-1) now = (⟨k, m, l, s, t, now, i, g⟩, 0)))
    (HM2 : Hid (mayF ⟨k, m, l + 1, s, t, now, i, g⟩ = true))
    (hl1 : l ≤ 2147483646)
    (H3 : Hid (sizedF ⟨k, m, l, s, t, c, i, g⟩ size now = (⟨0, 0, 0, 0, 0, 0, 0, 0⟩, E3)))
    (hE3 : (E3 == 0) = false)
    (H4 : Hid (modedF ⟨k, m, l, s, t, c, i, g⟩ mode now = (⟨k, mode, l, s, t, now, i, g⟩, 0)))
    (HM4 : Hid (mayF ⟨k, mode, l, s, t, now, i, g⟩ = true)) :
    Calls Try.prog 4 #[.agg #[.int .u8 k, .int .i64 m, .int .i64 l, .int .i64 s, .int .i64 t, .int .i64 c, .int .i64 i, .int .i64 g], .int .i64 mode, .int .i64 size, .int .i64 now] w fun e w' => e = .returned (.bool true) ∧ Below w.heap.size w w' := by
  go_enter Try.func4, Try.ntmps4
  go_wp2_with fail
  refine (mayV _ _ _ _ _ _ _ _ true _ HM.out).mono ?_
  rintro e w1 ⟨rfl, hb⟩
  have R := (RowAt.new w 23 [.int .u8 k, .int .i64 m, .int .i64 l, .int .i64 s, .int .i64 t, .int .i64 c, .int .i64 i, .int .i64 g]).next hb
  have hw := bt (b1 w _) hb
  clear hb
  go_wp2_with fail
  refine (awake_any _).mono ?_
  rintro e w2 ⟨rfl, hb⟩
  replace R := R.next hb
  replace hw := bt hw hb
  clear hb
  obtain ⟨ba, hba⟩ : ∃ ba, ba = w.heap.size := ⟨_, rfl⟩
  rw [← hba] at R ⊢
  clear hba
  have p0 := R.cell 0
  have p1 := R.cell 1
  have p2 := R.cell 2
  have p3 := R.cell 3
  have p4 := R.cell 4
  have p5 := R.cell 5
  have p6 := R.cell 6
  have p7 := R.cell 7
  simp at p0 p1 p2 p3 p4 p5 p6 p7
  go_wp2_with fail
  refine (linkedV k m l s t c i g 1 now (k) (m) (l + 1) (s) (t) (now) (i) (g) 0 _ (by omega) (by omega) H2.out).mono ?_
  rintro e w3 ⟨rfl, hb⟩
  clear p0 p1 p2 p3 p4 p5 p6 p7
  replace R := R.next hb
  replace hw := bt hw hb
  have hl3 : w.heap.size ≤ w3.heap.size := hw.size
  have Rlt := R.lt
  clear hb
  have p0 := R.cell 0
  have p1 := R.cell 1
  have p2 := R.cell 2
  have p3 := R.cell 3
  have p4 := R.cell 4
  have p5 := R.cell 5
  have p6 := R.cell 6
  have p7 := R.cell 7
  simp at p0 p1 p2 p3 p4 p5 p6 p7
  go_wp2_with fail
  refine (linkedV k m (l + 1) s t now i g (-1) now (k) (m) (l) (s) (t) (now) (i) (g) 0 _ (by omega) (by omega) H2b.out).mono ?_
  rintro e w4 ⟨rfl, hb⟩
  clear p0 p1 p2 p3 p4 p5 p6 p7
  replace R := (R.alloc _).next hb
  have Bq := (RowAt.new w3 23 [.int .u8 k, .int .i64 m, .int .i64 (l + 1), .int .i64 s, .int .i64 t, .int .i64 now, .int .i64 i, .int .i64 g]).next hb
  replace hw := btA hw hb
  obtain ⟨bb, hbb⟩ : ∃ bb, bb = w3.heap.size := ⟨_, rfl⟩
  rw [← hbb] at Bq hl3 Rlt ⊢
  have hl4 : w.heap.size ≤ w4.heap.size := hw.size
  have Rlt2 := R.lt
  have Blt := Bq.lt
  clear hb hbb
  have p0 := R.cell 0
  have p1 := R.cell 1
  have p2 := R.cell 2
  have p3 := R.cell 3
  have p4 := R.cell 4
  have p5 := R.cell 5
  have p6 := R.cell 6
  have p7 := R.cell 7
  simp at p0 p1 p2 p3 p4 p5 p6 p7
  have q0 := Bq.cell 0
  have q1 := Bq.cell 1
  have q2 := Bq.cell 2
  have q3 := Bq.cell 3
  have q4 := Bq.cell 4
  have q5 := Bq.cell 5
  have q6 := Bq.cell 6
  have q7 := Bq.cell 7
  simp at q0 q1 q2 q3 q4 q5 q6 q7
  go_wp2_with fail
  refine (mayV _ _ _ _ _ _ _ _ true _ HM2.out).mono ?_
  rintro e w5 ⟨rfl, hb⟩
  clear p0 p1 p2 p3 p4 p5 p6 p7
  clear q0 q1 q2 q3 q4 q5 q6 q7
  have Cq := (RowAt.new w4 23 [.int .u8 k, .int .i64 m, .int .i64 l, .int .i64 s, .int .i64 t, .int .i64 c, .int .i64 i, .int .i64 g]).next hb
  replace R := (R.alloc _).next hb
  replace Bq := (Bq.alloc _).next hb
  replace hw := btA hw hb
  obtain ⟨bc, hbc⟩ : ∃ bc, bc = w4.heap.size := ⟨_, rfl⟩
  rw [← hbc] at Cq ⊢
  have nab : ba ≠ bb := by omega
  clear hb hbc
  have p0 := R.cell 0
  have p1 := R.cell 1
  have p2 := R.cell 2
  have p3 := R.cell 3
  have p4 := R.cell 4
  have p5 := R.cell 5
  have p6 := R.cell 6
  have p7 := R.cell 7
  simp at p0 p1 p2 p3 p4 p5 p6 p7
  have q0 := Bq.cell 0
  have q1 := Bq.cell 1
  have q2 := Bq.cell 2
  have q3 := Bq.cell 3
  have q4 := Bq.cell 4
  have q5 := Bq.cell 5
  have q6 := Bq.cell 6
  have q7 := Bq.cell 7
  have qf0 := Bq.free 0
  have qf1 := Bq.free 1
  have qf2 := Bq.free 2
  have qf3 := Bq.free 3
  have qf4 := Bq.free 4
  have qf5 := Bq.free 5
  have qf6 := Bq.free 6
  have qf7 := Bq.free 7
  simp at q0 q1 q2 q3 q4 q5 q6 q7
  have r0 := Cq.cell 0
  have r1 := Cq.cell 1
  have r2 := Cq.cell 2
  have r3 := Cq.cell 3
  have r4 := Cq.cell 4
  have r5 := Cq.cell 5
  have r6 := Cq.cell 6
  have r7 := Cq.cell 7
  simp at r0 r1 r2 r3 r4 r5 r6 r7
  go_wp2_with fail
  refine (sizedV k m l s t c i g size now (0) (0) (0) (0) (0) (0) (0) (0) E3 _ H3.out).mono ?_
  rintro e w6 ⟨rfl, hb⟩
  clear p0 p1 p2 p3 p4 p5 p6 p7
  clear q0 q1 q2 q3 q4 q5 q6 q7 qf0 qf1 qf2 qf3 qf4 qf5 qf6 qf7
  clear r0 r1 r2 r3 r4 r5 r6 r7 Cq
  replace R := R.next hb
  replace Bq := Bq.next hb
  replace hw := bt hw hb
  clear hb
  have p0 := R.cell 0
  have p1 := R.cell 1
  have p2 := R.cell 2
  have p3 := R.cell 3
  have p4 := R.cell 4
  have p5 := R.cell 5
  have p6 := R.cell 6
  have p7 := R.cell 7
  simp at p0 p1 p2 p3 p4 p5 p6 p7
  have q0 := Bq.cell 0
  have q1 := Bq.cell 1
  have q2 := Bq.cell 2
  have q3 := Bq.cell 3
  have q4 := Bq.cell 4
  have q5 := Bq.cell 5
  have q6 := Bq.cell 6
  have q7 := Bq.cell 7
  have qf0 := Bq.free 0
  have qf1 := Bq.free 1
  have qf2 := Bq.free 2
  have qf3 := Bq.free 3
  have qf4 := Bq.free 4
  have qf5 := Bq.free 5
  have qf6 := Bq.free 6
  have qf7 := Bq.free 7
  simp at q0 q1 q2 q3 q4 q5 q6 q7
  go_wp2_with fail
  refine (modedV k m l s t c i g mode now (k) (mode) (l) (s) (t) (now) (i) (g) 0 _ H4.out).mono ?_
  rintro e w9 ⟨rfl, hb⟩
  clear p0 p1 p2 p3 p4 p5 p6 p7
  clear q0 q1 q2 q3 q4 q5 q6 q7 qf0 qf1 qf2 qf3 qf4 qf5 qf6 qf7
  replace R := (R.set8o nab (.int .u8 (0)) (.int .i64 (0)) (.int .i64 (0)) (.int .i64 (0)) (.int .i64 (0)) (.int .i64 (0)) (.int .i64 (0)) (.int .i64 (0))).next hb
  replace Bq := (Bq.set8 (.int .u8 (0)) (.int .i64 (0)) (.int .i64 (0)) (.int .i64 (0)) (.int .i64 (0)) (.int .i64 (0)) (.int .i64 (0)) (.int .i64 (0))).next hb
  replace hw := bt (below_set8 hw hl3 (.int .u8 (0)) (.int .i64 (0)) (.int .i64 (0)) (.int .i64 (0)) (.int .i64 (0)) (.int .i64 (0)) (.int .i64 (0)) (.int .i64 (0))) hb
  clear hb
  have p0 := R.cell 0
  have p1 := R.cell 1
  have p2 := R.cell 2
  have p3 := R.cell 3
  have p4 := R.cell 4
  have p5 := R.cell 5
  have p6 := R.cell 6
  have p7 := R.cell 7
  simp at p0 p1 p2 p3 p4 p5 p6 p7
  have q0 := Bq.cell 0
  have q1 := Bq.cell 1
  have q2 := Bq.cell 2
  have q3 := Bq.cell 3
  have q4 := Bq.cell 4
  have q5 := Bq.cell 5
  have q6 := Bq.cell 6
  have q7 := Bq.cell 7
  have qf0 := Bq.free 0
  have qf1 := Bq.free 1
  have qf2 := Bq.free 2
  have qf3 := Bq.free 3
  have qf4 := Bq.free 4
  have qf5 := Bq.free 5
  have qf6 := Bq.free 6
  have qf7 := Bq.free 7
  simp at q0 q1 q2 q3 q4 q5 q6 q7
  go_wp2_with fail
  refine (mayV _ _ _ _ _ _ _ _ true _ HM4.out).mono ?_
  rintro e w10 ⟨rfl, hb⟩
  clear p0 p1 p2 p3 p4 p5 p6 p7
  clear q0 q1 q2 q3 q4 q5 q6 q7 qf0 qf1 qf2 qf3 qf4 qf5 qf6 qf7
  replace R := (R.set8o nab (.int .u8 (k)) (.int .i64 (mode)) (.int .i64 (l)) (.int .i64 (s)) (.int .i64 (t)) (.int .i64 (now)) (.int .i64 (i)) (.int .i64 (g))).next hb
  replace Bq := (Bq.set8 (.int .u8 (k)) (.int .i64 (mode)) (.int .i64 (l)) (.int .i64 (s)) (.int .i64 (t)) (.int .i64 (now)) (.int .i64 (i)) (.int .i64 (g))).next hb
  replace hw := bt (below_set8 hw hl3 (.int .u8 (k)) (.int .i64 (mode)) (.int .i64 (l)) (.int .i64 (s)) (.int .i64 (t)) (.int .i64 (now)) (.int .i64 (i)) (.int .i64 (g))) hb
  clear hb
  have p0 := R.cell 0
  have p1 := R.cell 1
  have p2 := R.cell 2
  have p3 := R.cell 3
  have p4 := R.cell 4
  have p5 := R.cell 5
  have p6 := R.cell 6
  have p7 := R.cell 7
  simp at p0 p1 p2 p3 p4 p5 p6 p7
  have q0 := Bq.cell 0
  have q1 := Bq.cell 1
  have q2 := Bq.cell 2
  have q3 := Bq.cell 3
  have q4 := Bq.cell 4
  have q5 := Bq.cell 5
  have q6 := Bq.cell 6
  have q7 := Bq.cell 7
  have qf0 := Bq.free 0
  have qf1 := Bq.free 1
  have qf2 := Bq.free 2
  have qf3 := Bq.free 3
  have qf4 := Bq.free 4
  have qf5 := Bq.free 5
  have qf6 := Bq.free 6
  have qf7 := Bq.free 7
  simp at q0 q1 q2 q3 q4 q5 q6 q7
  go_wp2_with fail
  go_region
  clear p0 p1 p2 p3 p4 p5 p6 p7
  clear q0 q1 q2 q3 q4 q5 q6 q7 qf0 qf1 qf2 qf3 qf4 qf5 qf6 qf7
  replace R := ((R.other 1 (.int .i64 m) nab).other 5 (.int .i64 c) nab).drew
  replace Bq := ((Bq.set 1 (.int .i64 m)).set 5 (.int .i64 c)).drew
  simp only [List.set_cons_succ, List.set_cons_zero] at Bq
  replace hw := ((hw.setCell (p := ⟨bb, 1, none⟩) hl3 (.int .i64 m)).setCell (p := ⟨bb, 5, none⟩) hl3 (.int .i64 c)).drew
  generalize hWe : World.drew _ = W9 at *
  clear hWe
  have p0 := R.cell 0
  have p1 := R.cell 1
  have p2 := R.cell 2
  have p3 := R.cell 3
  have p4 := R.cell 4
  have p5 := R.cell 5
  have p6 := R.cell 6
  have p7 := R.cell 7
  simp at p0 p1 p2 p3 p4 p5 p6 p7
  have q0 := Bq.cell 0
  have q1 := Bq.cell 1
  have q2 := Bq.cell 2
  have q3 := Bq.cell 3
  have q4 := Bq.cell 4
  have q5 := Bq.cell 5
  have q6 := Bq.cell 6
  have q7 := Bq.cell 7
  simp at q0 q1 q2 q3 q4 q5 q6 q7
  go_wp2
  go_ret
  exact ⟨rfl, hw⟩

set_option maxHeartbeats 8000000 in
theorem imay_100 (k m l s t c i g mode size now E3 E4 : Int) (w : World) (hl0 : 0 ≤ l) (hl9 : l ≤ 2147483647)
    (HM : Hid (mayF ⟨k, m, l, s, t, c, i, g⟩ = true))
    (H2 : Hid (linkedF ⟨k, m, l, s, t, c, i, g⟩ 1 now = (⟨k, m, l + 1, s, t, now, i, g⟩, 0)))
    (H2b : Hid (linkedF ⟨k, m, l + 1, s, t, now, i, g⟩ (-1) now = (⟨k, m, l, s, t, now, i, g⟩, 0)))
    (HM2 : Hid (mayF ⟨k, m, l + 1, s, t, now, i, g⟩ = true))
    (hl1 : l ≤ 2147483646)
    (H3 : Hid (sizedF ⟨k, m, l, s, t, c, i, g⟩ size now = (⟨0, 0, 0, 0, 0, 0, 0, 0⟩, E3)))
    (hE3 : (E3 == 0) = false)
    (H4 : Hid (modedF ⟨k, m, l, s, t, c, i, g⟩ mode now = (⟨0, 0, 0, 0, 0, 0, 0, 0⟩, E4)))
    (hE4 : (E4 == 0) = false) :
    Calls Try.prog 4 #[.agg #[.int .u8 k, .int .i64 m, .int .i64 l, .int .i64 s, .int .i64 t, .int .i64 c, .int .i64 i, .int .i64 g], .int .i64 mode, .int .i64 size, .int .i64 now] w fun e w' => e = .returned (.bool true) ∧ Below w.heap.size w w' := by
  go_enter Try.func4, Try.ntmps4
  go_wp2_with fail
  refine (mayV _ _ _ _ _ _ _ _ true _ HM.out).mono ?_
  rintro e w1 ⟨rfl, hb⟩
  have R := (RowAt.new w 23 [.int .u8 k, .int .i64 m, .int .i64 l, .int .i64 s, .int .i64 t, .int .i64 c, .int .i64 i, .int .i64 g]).next hb
  have hw := bt (b1 w _) hb
  clear hb
  go_wp2_with fail
  refine (awake_any _).mono ?_
  rintro e w2 ⟨rfl, hb⟩
  replace R := R.next hb
  replace hw := bt hw hb
  clear hb
  obtain ⟨ba, hba⟩ : ∃ ba, ba = w.heap.size := ⟨_, rfl⟩
  rw [← hba] at R ⊢
  clear hba
  have p0 := R.cell 0
  have p1 := R.cell 1
  have p2 := R.cell 2
  have p3 := R.cell 3
  have p4 := R.cell 4
  have p5 := R.cell 5
  have p6 := R.cell 6
  have p7 := R.cell 7
  simp at p0 p1 p2 p3 p4 p5 p6 p7
  go_wp2_with fail
  refine (linkedV k m l s t c i g 1 now (k) (m) (l + 1) (s) (t) (now) (i) (g) 0 _ (by omega) (by omega) H2.out).mono ?_
  rintro e w3 ⟨rfl, hb⟩
  clear p0 p1 p2 p3 p4 p5 p6 p7
  replace R := R.next hb
  replace hw := bt hw hb
  have hl3 : w.heap.size ≤ w3.heap.size := hw.size
  have Rlt := R.lt
  clear hb
  have p0 := R.cell 0
  have p1 := R.cell 1
  have p2 := R.cell 2
  have p3 := R.cell 3
  have p4 := R.cell 4
  have p5 := R.cell 5
  have p6 := R.cell 6
  have p7 := R.cell 7
  simp at p0 p1 p2 p3 p4 p5 p6 p7
  go_wp2_with fail
  refine (linkedV k m (l + 1) s t now i g (-1) now (k) (m) (l) (s) (t) (now) (i) (g) 0 _ (by omega) (by omega) H2b.out).mono ?_
  rintro e w4 ⟨rfl, hb⟩
  clear p0 p1 p2 p3 p4 p5 p6 p7
  replace R := (R.alloc _).next hb
  have Bq := (RowAt.new w3 23 [.int .u8 k, .int .i64 m, .int .i64 (l + 1), .int .i64 s, .int .i64 t, .int .i64 now, .int .i64 i, .int .i64 g]).next hb
  replace hw := btA hw hb
  obtain ⟨bb, hbb⟩ : ∃ bb, bb = w3.heap.size := ⟨_, rfl⟩
  rw [← hbb] at Bq hl3 Rlt ⊢
  have hl4 : w.heap.size ≤ w4.heap.size := hw.size
  have Rlt2 := R.lt
  have Blt := Bq.lt
  clear hb hbb
  have p0 := R.cell 0
  have p1 := R.cell 1
  have p2 := R.cell 2
  have p3 := R.cell 3
  have p4 := R.cell 4
  have p5 := R.cell 5
  have p6 := R.cell 6
  have p7 := R.cell 7
  simp at p0 p1 p2 p3 p4 p5 p6 p7
  have q0 := Bq.cell 0
  have q1 := Bq.cell 1
  have q2 := Bq.cell 2
  have q3 := Bq.cell 3
  have q4 := Bq.cell 4
  have q5 := Bq.cell 5
  have q6 := Bq.cell 6
  have q7 := Bq.cell 7
  simp at q0 q1 q2 q3 q4 q5 q6 q7
  go_wp2_with fail
  refine (mayV _ _ _ _ _ _ _ _ true _ HM2.out).mono ?_
  rintro e w5 ⟨rfl, hb⟩
  clear p0 p1 p2 p3 p4 p5 p6 p7
  clear q0 q1 q2 q3 q4 q5 q6 q7
  have Cq := (RowAt.new w4 23 [.int .u8 k, .int .i64 m, .int .i64 l, .int .i64 s, .int .i64 t, .int .i64 c, .int .i64 i, .int .i64 g]).next hb
  replace R := (R.alloc _).next hb
  replace Bq := (Bq.alloc _).next hb
  replace hw := btA hw hb
  obtain ⟨bc, hbc⟩ : ∃ bc, bc = w4.heap.size := ⟨_, rfl⟩
  rw [← hbc] at Cq ⊢
  have nab : ba ≠ bb := by omega
  clear hb hbc
  have p0 := R.cell 0
  have p1 := R.cell 1
  have p2 := R.cell 2
  have p3 := R.cell 3
  have p4 := R.cell 4
  have p5 := R.cell 5
  have p6 := R.cell 6
  have p7 := R.cell 7
  simp at p0 p1 p2 p3 p4 p5 p6 p7
  have q0 := Bq.cell 0
  have q1 := Bq.cell 1
  have q2 := Bq.cell 2
  have q3 := Bq.cell 3
  have q4 := Bq.cell 4
  have q5 := Bq.cell 5
  have q6 := Bq.cell 6
  have q7 := Bq.cell 7
  have qf0 := Bq.free 0
  have qf1 := Bq.free 1
  have qf2 := Bq.free 2
  have qf3 := Bq.free 3
  have qf4 := Bq.free 4
  have qf5 := Bq.free 5
  have qf6 := Bq.free 6
  have qf7 := Bq.free 7
  simp at q0 q1 q2 q3 q4 q5 q6 q7
  have r0 := Cq.cell 0
  have r1 := Cq.cell 1
  have r2 := Cq.cell 2
  have r3 := Cq.cell 3
  have r4 := Cq.cell 4
  have r5 := Cq.cell 5
  have r6 := Cq.cell 6
  have r7 := Cq.cell 7
  simp at r0 r1 r2 r3 r4 r5 r6 r7
  go_wp2_with fail
  refine (sizedV k m l s t c i g size now (0) (0) (0) (0) (0) (0) (0) (0) E3 _ H3.out).mono ?_
  rintro e w6 ⟨rfl, hb⟩
  clear p0 p1 p2 p3 p4 p5 p6 p7
  clear q0 q1 q2 q3 q4 q5 q6 q7 qf0 qf1 qf2 qf3 qf4 qf5 qf6 qf7
  clear r0 r1 r2 r3 r4 r5 r6 r7 Cq
  replace R := R.next hb
  replace Bq := Bq.next hb
  replace hw := bt hw hb
  clear hb
  have p0 := R.cell 0
  have p1 := R.cell 1
  have p2 := R.cell 2
  have p3 := R.cell 3
  have p4 := R.cell 4
  have p5 := R.cell 5
  have p6 := R.cell 6
  have p7 := R.cell 7
  simp at p0 p1 p2 p3 p4 p5 p6 p7
  have q0 := Bq.cell 0
  have q1 := Bq.cell 1
  have q2 := Bq.cell 2
  have q3 := Bq.cell 3
  have q4 := Bq.cell 4
  have q5 := Bq.cell 5
  have q6 := Bq.cell 6
  have q7 := Bq.cell 7
  have qf0 := Bq.free 0
  have qf1 := Bq.free 1
  have qf2 := Bq.free 2
  have qf3 := Bq.free 3
  have qf4 := Bq.free 4
  have qf5 := Bq.free 5
  have qf6 := Bq.free 6
  have qf7 := Bq.free 7
  simp at q0 q1 q2 q3 q4 q5 q6 q7
  go_wp2_with fail
  refine (modedV k m l s t c i g mode now (0) (0) (0) (0) (0) (0) (0) (0) E4 _ H4.out).mono ?_
  rintro e w9 ⟨rfl, hb⟩
  clear p0 p1 p2 p3 p4 p5 p6 p7
  clear q0 q1 q2 q3 q4 q5 q6 q7 qf0 qf1 qf2 qf3 qf4 qf5 qf6 qf7
  replace R := (R.set8o nab (.int .u8 (0)) (.int .i64 (0)) (.int .i64 (0)) (.int .i64 (0)) (.int .i64 (0)) (.int .i64 (0)) (.int .i64 (0)) (.int .i64 (0))).next hb
  replace Bq := (Bq.set8 (.int .u8 (0)) (.int .i64 (0)) (.int .i64 (0)) (.int .i64 (0)) (.int .i64 (0)) (.int .i64 (0)) (.int .i64 (0)) (.int .i64 (0))).next hb
  replace hw := bt (below_set8 hw hl3 (.int .u8 (0)) (.int .i64 (0)) (.int .i64 (0)) (.int .i64 (0)) (.int .i64 (0)) (.int .i64 (0)) (.int .i64 (0)) (.int .i64 (0))) hb
  clear hb
  have q0 := Bq.cell 0
  have q1 := Bq.cell 1
  have q2 := Bq.cell 2
  have q3 := Bq.cell 3
  have q4 := Bq.cell 4
  have q5 := Bq.cell 5
  have q6 := Bq.cell 6
  have q7 := Bq.cell 7
  have qf0 := Bq.free 0
  have qf1 := Bq.free 1
  have qf2 := Bq.free 2
  have qf3 := Bq.free 3
  have qf4 := Bq.free 4
  have qf5 := Bq.free 5
  have qf6 := Bq.free 6
  have qf7 := Bq.free 7
  simp at q0 q1 q2 q3 q4 q5 q6 q7
  go_wp2
  go_ret
  exact ⟨rfl, below_set8 hw hl3 (.int .u8 (0)) (.int .i64 (0)) (.int .i64 (0)) (.int .i64 (0)) (.int .i64 (0)) (.int .i64 (0)) (.int .i64 (0)) (.int .i64 (0))⟩

set_option maxHeartbeats 8000000 in
theorem imay_011 (k m l s t c i g mode size now E2 : Int) (w : World) (hl0 : 0 ≤ l) (hl9 : l ≤ 2147483647)
    (HM : Hid (mayF ⟨k, m, l, s, t, c, i, g⟩ = true))
    (H2 : Hid (linkedF ⟨k, m, l, s, t, c, i, g⟩ 1 now = (⟨0, 0, 0, 0, 0, 0, 0, 0⟩, E2)))
    (hE2 : (E2 == 0) = false)
    (H3 : Hid (sizedF ⟨k, m, l, s, t, c, i, g⟩ size now = (⟨k, m, l, size, now, now, i, g⟩, 0)))
    (HM3 : Hid (mayF ⟨k, m, l, size, now, now, i, g⟩ = true))
    (H4 : Hid (modedF ⟨k, m, l, s, t, c, i, g⟩ mode now = (⟨k, mode, l, s, t, now, i, g⟩, 0)))
    (HM4 : Hid (mayF ⟨k, mode, l, s, t, now, i, g⟩ = true)) :
    Calls Try.prog 4 #[.agg #[.int .u8 k, .int .i64 m, .int .i64 l, .int .i64 s, .int .i64 t, .int .i64 c, .int .i64 i, .int .i64 g], .int .i64 mode, .int .i64 size, .int .i64 now] w fun e w' => e = .returned (.bool true) ∧ Below w.heap.size w w' := by
  go_enter Try.func4, Try.ntmps4
  go_wp2_with fail
  refine (mayV _ _ _ _ _ _ _ _ true _ HM.out).mono ?_
  rintro e w1 ⟨rfl, hb⟩
  have R := (RowAt.new w 23 [.int .u8 k, .int .i64 m, .int .i64 l, .int .i64 s, .int .i64 t, .int .i64 c, .int .i64 i, .int .i64 g]).next hb
  have hw := bt (b1 w _) hb
  clear hb
  go_wp2_with fail
  refine (awake_any _).mono ?_
  rintro e w2 ⟨rfl, hb⟩
  replace R := R.next hb
  replace hw := bt hw hb
  clear hb
  obtain ⟨ba, hba⟩ : ∃ ba, ba = w.heap.size := ⟨_, rfl⟩
  rw [← hba] at R ⊢
  clear hba
  have p0 := R.cell 0
  have p1 := R.cell 1
  have p2 := R.cell 2
  have p3 := R.cell 3
  have p4 := R.cell 4
  have p5 := R.cell 5
  have p6 := R.cell 6
  have p7 := R.cell 7
  simp at p0 p1 p2 p3 p4 p5 p6 p7
  go_wp2_with fail
  refine (linkedV k m l s t c i g 1 now (0) (0) (0) (0) (0) (0) (0) (0) E2 _ (by omega) (by omega) H2.out).mono ?_
  rintro e w3 ⟨rfl, hb⟩
  clear p0 p1 p2 p3 p4 p5 p6 p7
  replace R := R.next hb
  replace hw := bt hw hb
  have hl3 : w.heap.size ≤ w3.heap.size := hw.size
  have Rlt := R.lt
  clear hb
  have p0 := R.cell 0
  have p1 := R.cell 1
  have p2 := R.cell 2
  have p3 := R.cell 3
  have p4 := R.cell 4
  have p5 := R.cell 5
  have p6 := R.cell 6
  have p7 := R.cell 7
  simp at p0 p1 p2 p3 p4 p5 p6 p7
  go_wp2_with fail
  refine (sizedV k m l s t c i g size now (k) (m) (l) (size) (now) (now) (i) (g) 0 _ H3.out).mono ?_
  rintro e w6 ⟨rfl, hb⟩
  clear p0 p1 p2 p3 p4 p5 p6 p7
  replace R := (R.alloc _).next hb
  have Bq := (RowAt.new w3 23 [.int .u8 0, .int .i64 0, .int .i64 0, .int .i64 0, .int .i64 0, .int .i64 0, .int .i64 0, .int .i64 0]).next hb
  replace hw := btA hw hb
  obtain ⟨bb, hbb⟩ : ∃ bb, bb = w3.heap.size := ⟨_, rfl⟩
  rw [← hbb] at Bq hl3 Rlt ⊢
  have nab : ba ≠ bb := by omega
  clear hb hbb
  have p0 := R.cell 0
  have p1 := R.cell 1
  have p2 := R.cell 2
  have p3 := R.cell 3
  have p4 := R.cell 4
  have p5 := R.cell 5
  have p6 := R.cell 6
  have p7 := R.cell 7
  simp at p0 p1 p2 p3 p4 p5 p6 p7
  have q0 := Bq.cell 0
  have q1 := Bq.cell 1
  have q2 := Bq.cell 2
  have q3 := Bq.cell 3
  have q4 := Bq.cell 4
  have q5 := Bq.cell 5
  have q6 := Bq.cell 6
  have q7 := Bq.cell 7
  have qf0 := Bq.free 0
  have qf1 := Bq.free 1
  have qf2 := Bq.free 2
  have qf3 := Bq.free 3
  have qf4 := Bq.free 4
  have qf5 := Bq.free 5
  have qf6 := Bq.free 6
  have qf7 := Bq.free 7
  simp at q0 q1 q2 q3 q4 q5 q6 q7
  go_wp2_with fail
  refine (mayV _ _ _ _ _ _ _ _ true _ HM3.out).mono ?_
  rintro e w7 ⟨rfl, hb⟩
  clear p0 p1 p2 p3 p4 p5 p6 p7
  clear q0 q1 q2 q3 q4 q5 q6 q7 qf0 qf1 qf2 qf3 qf4 qf5 qf6 qf7
  replace R := (R.set8o nab (.int .u8 (k)) (.int .i64 (m)) (.int .i64 (l)) (.int .i64 (size)) (.int .i64 (now)) (.int .i64 (now)) (.int .i64 (i)) (.int .i64 (g))).next hb
  replace Bq := (Bq.set8 (.int .u8 (k)) (.int .i64 (m)) (.int .i64 (l)) (.int .i64 (size)) (.int .i64 (now)) (.int .i64 (now)) (.int .i64 (i)) (.int .i64 (g))).next hb
  replace hw := bt (below_set8 hw hl3 (.int .u8 (k)) (.int .i64 (m)) (.int .i64 (l)) (.int .i64 (size)) (.int .i64 (now)) (.int .i64 (now)) (.int .i64 (i)) (.int .i64 (g))) hb
  clear hb
  have p0 := R.cell 0
  have p1 := R.cell 1
  have p2 := R.cell 2
  have p3 := R.cell 3
  have p4 := R.cell 4
  have p5 := R.cell 5
  have p6 := R.cell 6
  have p7 := R.cell 7
  simp at p0 p1 p2 p3 p4 p5 p6 p7
  have q0 := Bq.cell 0
  have q1 := Bq.cell 1
  have q2 := Bq.cell 2
  have q3 := Bq.cell 3
  have q4 := Bq.cell 4
  have q5 := Bq.cell 5
  have q6 := Bq.cell 6
  have q7 := Bq.cell 7
  have qf0 := Bq.free 0
  have qf1 := Bq.free 1
  have qf2 := Bq.free 2
  have qf3 := Bq.free 3
  have qf4 := Bq.free 4
  have qf5 := Bq.free 5
  have qf6 := Bq.free 6
  have qf7 := Bq.free 7
  simp at q0 q1 q2 q3 q4 q5 q6 q7
  go_wp2_with fail
  go_region
  clear p0 p1 p2 p3 p4 p5 p6 p7
  clear q0 q1 q2 q3 q4 q5 q6 q7 qf0 qf1 qf2 qf3 qf4 qf5 qf6 qf7
  replace R := (((R.other 3 (.int .i64 s) nab).other 4 (.int .i64 t) nab).other 5 (.int .i64 c) nab).drew
  replace Bq := (((Bq.set 3 (.int .i64 s)).set 4 (.int .i64 t)).set 5 (.int .i64 c)).drew
  simp only [List.set_cons_succ, List.set_cons_zero] at Bq
  replace hw := (((hw.setCell (p := ⟨bb, 3, none⟩) hl3 (.int .i64 s)).setCell (p := ⟨bb, 4, none⟩) hl3 (.int .i64 t)).setCell (p := ⟨bb, 5, none⟩) hl3 (.int .i64 c)).drew
  generalize hWe : World.drew _ = W8 at *
  clear hWe
  have p0 := R.cell 0
  have p1 := R.cell 1
  have p2 := R.cell 2
  have p3 := R.cell 3
  have p4 := R.cell 4
  have p5 := R.cell 5
  have p6 := R.cell 6
  have p7 := R.cell 7
  simp at p0 p1 p2 p3 p4 p5 p6 p7
  have q0 := Bq.cell 0
  have q1 := Bq.cell 1
  have q2 := Bq.cell 2
  have q3 := Bq.cell 3
  have q4 := Bq.cell 4
  have q5 := Bq.cell 5
  have q6 := Bq.cell 6
  have q7 := Bq.cell 7
  have qf0 := Bq.free 0
  have qf1 := Bq.free 1
  have qf2 := Bq.free 2
  have qf3 := Bq.free 3
  have qf4 := Bq.free 4
  have qf5 := Bq.free 5
  have qf6 := Bq.free 6
  have qf7 := Bq.free 7
  simp at q0 q1 q2 q3 q4 q5 q6 q7
  go_wp2_with fail
  refine (modedV k m l s t c i g mode now (k) (mode) (l) (s) (t) (now) (i) (g) 0 _ H4.out).mono ?_
  rintro e w9 ⟨rfl, hb⟩
  clear p0 p1 p2 p3 p4 p5 p6 p7
  clear q0 q1 q2 q3 q4 q5 q6 q7 qf0 qf1 qf2 qf3 qf4 qf5 qf6 qf7
  replace R := R.next hb
  replace Bq := Bq.next hb
  replace hw := bt hw hb
  clear hb
  have p0 := R.cell 0
  have p1 := R.cell 1
  have p2 := R.cell 2
  have p3 := R.cell 3
  have p4 := R.cell 4
  have p5 := R.cell 5
  have p6 := R.cell 6
  have p7 := R.cell 7
  simp at p0 p1 p2 p3 p4 p5 p6 p7
  have q0 := Bq.cell 0
  have q1 := Bq.cell 1
  have q2 := Bq.cell 2
  have q3 := Bq.cell 3
  have q4 := Bq.cell 4
  have q5 := Bq.cell 5
  have q6 := Bq.cell 6
  have q7 := Bq.cell 7
  have qf0 := Bq.free 0
  have qf1 := Bq.free 1
  have qf2 := Bq.free 2
  have qf3 := Bq.free 3
  have qf4 := Bq.free 4
  have qf5 := Bq.free 5
  have qf6 := Bq.free 6
  have qf7 := Bq.free 7
  simp at q0 q1 q2 q3 q4 q5 q6 q7
  go_wp2_with fail
  refine (mayV _ _ _ _ _ _ _ _ true _ HM4.out).mono ?_
  rintro e w10 ⟨rfl, hb⟩
  clear p0 p1 p2 p3 p4 p5 p6 p7
  clear q0 q1 q2 q3 q4 q5 q6 q7 qf0 qf1 qf2 qf3 qf4 qf5 qf6 qf7
  replace R := (R.set8o nab (.int .u8 (k)) (.int .i64 (mode)) (.int .i64 (l)) (.int .i64 (s)) (.int .i64 (t)) (.int .i64 (now)) (.int .i64 (i)) (.int .i64 (g))).next hb
  replace Bq := (Bq.set8 (.int .u8 (k)) (.int .i64 (mode)) (.int .i64 (l)) (.int .i64 (s)) (.int .i64 (t)) (.int .i64 (now)) (.int .i64 (i)) (.int .i64 (g))).next hb
  replace hw := bt (below_set8 hw hl3 (.int .u8 (k)) (.int .i64 (mode)) (.int .i64 (l)) (.int .i64 (s)) (.int .i64 (t)) (.int .i64 (now)) (.int .i64 (i)) (.int .i64 (g))) hb
  clear hb
  have p0 := R.cell 0
  have p1 := R.cell 1
  have p2 := R.cell 2
  have p3 := R.cell 3
  have p4 := R.cell 4
  have p5 := R.cell 5
  have p6 := R.cell 6
  have p7 := R.cell 7
  simp at p0 p1 p2 p3 p4 p5 p6 p7
  have q0 := Bq.cell 0
  have q1 := Bq.cell 1
  have q2 := Bq.cell 2
  have q3 := Bq.cell 3
  have q4 := Bq.cell 4
  have q5 := Bq.cell 5
  have q6 := Bq.cell 6
  have q7 := Bq.cell 7
  have qf0 := Bq.free 0
  have qf1 := Bq.free 1
  have qf2 := Bq.free 2
  have qf3 := Bq.free 3
  have qf4 := Bq.free 4
  have qf5 := Bq.free 5
  have qf6 := Bq.free 6
  have qf7 := Bq.free 7
  simp at q0 q1 q2 q3 q4 q5 q6 q7
  go_wp2_with fail
  go_region
  clear p0 p1 p2 p3 p4 p5 p6 p7
  clear q0 q1 q2 q3 q4 q5 q6 q7 qf0 qf1 qf2 qf3 qf4 qf5 qf6 qf7
  replace R := ((R.other 1 (.int .i64 m) nab).other 5 (.int .i64 c) nab).drew
  replace Bq := ((Bq.set 1 (.int .i64 m)).set 5 (.int .i64 c)).drew
  simp only [List.set_cons_succ, List.set_cons_zero] at Bq
  replace hw := ((hw.setCell (p := ⟨bb, 1, none⟩) hl3 (.int .i64 m)).setCell (p := ⟨bb, 5, none⟩) hl3 (.int .i64 c)).drew
  generalize hWe : World.drew _ = W9 at *
  clear hWe
  have p0 := R.cell 0
  have p1 := R.cell 1
  have p2 := R.cell 2
  have p3 := R.cell 3
  have p4 := R.cell 4
  have p5 := R.cell 5
  have p6 := R.cell 6
  have p7 := R.cell 7
  simp at p0 p1 p2 p3 p4 p5 p6 p7
  have q0 := Bq.cell 0
  have q1 := Bq.cell 1
  have q2 := Bq.cell 2
  have q3 := Bq.cell 3
  have q4 := Bq.cell 4
  have q5 := Bq.cell 5
  have q6 := Bq.cell 6
  have q7 := Bq.cell 7
  simp at q0 q1 q2 q3 q4 q5 q6 q7
  go_wp2
  go_ret
  exact ⟨rfl, hw⟩

set_option maxHeartbeats 8000000 in
theorem imay_010 (k m l s t c i g mode size now E2 E4 : Int) (w : World) (hl0 : 0 ≤ l) (hl9 : l ≤ 2147483647)
    (HM : Hid (mayF ⟨k, m, l, s, t, c, i, g⟩ = true))
    (H2 : Hid (linkedF ⟨k, m, l, s, t, c, i, g⟩ 1 now = (⟨0, 0, 0, 0, 0, 0, 0, 0⟩, E2)))
    (hE2 : (E2 == 0) = false)
    (H3 : Hid (sizedF ⟨k, m, l, s, t, c, i, g⟩ size now = (⟨k, m, l, size, now, now, i, g⟩, 0)))
    (HM3 : Hid (mayF ⟨k, m, l, size, now, now, i, g⟩ = true))
    (H4 : Hid (modedF ⟨k, m, l, s, t, c, i, g⟩ mode now = (⟨0, 0, 0, 0, 0, 0, 0, 0⟩, E4)))
    (hE4 : (E4 == 0) = false) :
    Calls Try.prog 4 #[.agg #[.int .u8 k, .int .i64 m, .int .i64 l, .int .i64 s, .int .i64 t, .int .i64 c, .int .i64 i, .int .i64 g], .int .i64 mode, .int .i64 size, .int .i64 now] w fun e w' => e = .returned (.bool true) ∧ Below w.heap.size w w' := by
  go_enter Try.func4, Try.ntmps4
  go_wp2_with fail
  refine (mayV _ _ _ _ _ _ _ _ true _ HM.out).mono ?_
  rintro e w1 ⟨rfl, hb⟩
  have R := (RowAt.new w 23 [.int .u8 k, .int .i64 m, .int .i64 l, .int .i64 s, .int .i64 t, .int .i64 c, .int .i64 i, .int .i64 g]).next hb
  have hw := bt (b1 w _) hb
  clear hb
  go_wp2_with fail
  refine (awake_any _).mono ?_
  rintro e w2 ⟨rfl, hb⟩
  replace R := R.next hb
  replace hw := bt hw hb
  clear hb
  obtain ⟨ba, hba⟩ : ∃ ba, ba = w.heap.size := ⟨_, rfl⟩
  rw [← hba] at R ⊢
  clear hba
  have p0 := R.cell 0
  have p1 := R.cell 1
  have p2 := R.cell 2
  have p3 := R.cell 3
  have p4 := R.cell 4
  have p5 := R.cell 5
  have p6 := R.cell 6
  have p7 := R.cell 7
  simp at p0 p1 p2 p3 p4 p5 p6 p7
  go_wp2_with fail
  refine (linkedV k m l s t c i g 1 now (0) (0) (0) (0) (0) (0) (0) (0) E2 _ (by omega) (by omega) H2.out).mono ?_
  rintro e w3 ⟨rfl, hb⟩
  clear p0 p1 p2 p3 p4 p5 p6 p7
  replace R := R.next hb
  replace hw := bt hw hb
  have hl3 : w.heap.size ≤ w3.heap.size := hw.size
  have Rlt := R.lt
  clear hb
  have p0 := R.cell 0
  have p1 := R.cell 1
  have p2 := R.cell 2
  have p3 := R.cell 3
  have p4 := R.cell 4
  have p5 := R.cell 5
  have p6 := R.cell 6
  have p7 := R.cell 7
  simp at p0 p1 p2 p3 p4 p5 p6 p7
  go_wp2_with fail
  refine (sizedV k m l s t c i g size now (k) (m) (l) (size) (now) (now) (i) (g) 0 _ H3.out).mono ?_
  rintro e w6 ⟨rfl, hb⟩
  clear p0 p1 p2 p3 p4 p5 p6 p7
  replace R := (R.alloc _).next hb
  have Bq := (RowAt.new w3 23 [.int .u8 0, .int .i64 0, .int .i64 0, .int .i64 0, .int .i64 0, .int .i64 0, .int .i64 0, .int .i64 0]).next hb
  replace hw := btA hw hb
  obtain ⟨bb, hbb⟩ : ∃ bb, bb = w3.heap.size := ⟨_, rfl⟩
  rw [← hbb] at Bq hl3 Rlt ⊢
  have nab : ba ≠ bb := by omega
  clear hb hbb
  have p0 := R.cell 0
  have p1 := R.cell 1
  have p2 := R.cell 2
  have p3 := R.cell 3
  have p4 := R.cell 4
  have p5 := R.cell 5
  have p6 := R.cell 6
  have p7 := R.cell 7
  simp at p0 p1 p2 p3 p4 p5 p6 p7
  have q0 := Bq.cell 0
  have q1 := Bq.cell 1
  have q2 := Bq.cell 2
  have q3 := Bq.cell 3
  have q4 := Bq.cell 4
  have q5 := Bq.cell 5
  have q6 := Bq.cell 6
  have q7 := Bq.cell 7
  have qf0 := Bq.free 0
  have qf1 := Bq.free 1
  have qf2 := Bq.free 2
  have qf3 := Bq.free 3
  have qf4 := Bq.free 4
  have qf5 := Bq.free 5
  have qf6 := Bq.free 6
  have qf7 := Bq.free 7
  simp at q0 q1 q2 q3 q4 q5 q6 q7
  go_wp2_with fail
  refine (mayV _ _ _ _ _ _ _ _ true _ HM3.out).mono ?_
  rintro e w7 ⟨rfl, hb⟩
  clear p0 p1 p2 p3 p4 p5 p6 p7
  clear q0 q1 q2 q3 q4 q5 q6 q7 qf0 qf1 qf2 qf3 qf4 qf5 qf6 qf7
  replace R := (R.set8o nab (.int .u8 (k)) (.int .i64 (m)) (.int .i64 (l)) (.int .i64 (size)) (.int .i64 (now)) (.int .i64 (now)) (.int .i64 (i)) (.int .i64 (g))).next hb
  replace Bq := (Bq.set8 (.int .u8 (k)) (.int .i64 (m)) (.int .i64 (l)) (.int .i64 (size)) (.int .i64 (now)) (.int .i64 (now)) (.int .i64 (i)) (.int .i64 (g))).next hb
  replace hw := bt (below_set8 hw hl3 (.int .u8 (k)) (.int .i64 (m)) (.int .i64 (l)) (.int .i64 (size)) (.int .i64 (now)) (.int .i64 (now)) (.int .i64 (i)) (.int .i64 (g))) hb
  clear hb
  have p0 := R.cell 0
  have p1 := R.cell 1
  have p2 := R.cell 2
  have p3 := R.cell 3
  have p4 := R.cell 4
  have p5 := R.cell 5
  have p6 := R.cell 6
  have p7 := R.cell 7
  simp at p0 p1 p2 p3 p4 p5 p6 p7
  have q0 := Bq.cell 0
  have q1 := Bq.cell 1
  have q2 := Bq.cell 2
  have q3 := Bq.cell 3
  have q4 := Bq.cell 4
  have q5 := Bq.cell 5
  have q6 := Bq.cell 6
  have q7 := Bq.cell 7
  have qf0 := Bq.free 0
  have qf1 := Bq.free 1
  have qf2 := Bq.free 2
  have qf3 := Bq.free 3
  have qf4 := Bq.free 4
  have qf5 := Bq.free 5
  have qf6 := Bq.free 6
  have qf7 := Bq.free 7
  simp at q0 q1 q2 q3 q4 q5 q6 q7
  go_wp2_with fail
  go_region
  clear p0 p1 p2 p3 p4 p5 p6 p7
  clear q0 q1 q2 q3 q4 q5 q6 q7 qf0 qf1 qf2 qf3 qf4 qf5 qf6 qf7
  replace R := (((R.other 3 (.int .i64 s) nab).other 4 (.int .i64 t) nab).other 5 (.int .i64 c) nab).drew
  replace Bq := (((Bq.set 3 (.int .i64 s)).set 4 (.int .i64 t)).set 5 (.int .i64 c)).drew
  simp only [List.set_cons_succ, List.set_cons_zero] at Bq
  replace hw := (((hw.setCell (p := ⟨bb, 3, none⟩) hl3 (.int .i64 s)).setCell (p := ⟨bb, 4, none⟩) hl3 (.int .i64 t)).setCell (p := ⟨bb, 5, none⟩) hl3 (.int .i64 c)).drew
  generalize hWe : World.drew _ = W8 at *
  clear hWe
  have p0 := R.cell 0
  have p1 := R.cell 1
  have p2 := R.cell 2
  have p3 := R.cell 3
  have p4 := R.cell 4
  have p5 := R.cell 5
  have p6 := R.cell 6
  have p7 := R.cell 7
  simp at p0 p1 p2 p3 p4 p5 p6 p7
  have q0 := Bq.cell 0
  have q1 := Bq.cell 1
  have q2 := Bq.cell 2
  have q3 := Bq.cell 3
  have q4 := Bq.cell 4
  have q5 := Bq.cell 5
  have q6 := Bq.cell 6
  have q7 := Bq.cell 7
  have qf0 := Bq.free 0
  have qf1 := Bq.free 1
  have qf2 := Bq.free 2
  have qf3 := Bq.free 3
  have qf4 := Bq.free 4
  have qf5 := Bq.free 5
  have qf6 := Bq.free 6
  have qf7 := Bq.free 7
  simp at q0 q1 q2 q3 q4 q5 q6 q7
  go_wp2_with fail
  refine (modedV k m l s t c i g mode now (0) (0) (0) (0) (0) (0) (0) (0) E4 _ H4.out).mono ?_
  rintro e w9 ⟨rfl, hb⟩
  clear p0 p1 p2 p3 p4 p5 p6 p7
  clear q0 q1 q2 q3 q4 q5 q6 q7 qf0 qf1 qf2 qf3 qf4 qf5 qf6 qf7
  replace R := R.next hb
  replace Bq := Bq.next hb
  replace hw := bt hw hb
  clear hb
  have q0 := Bq.cell 0
  have q1 := Bq.cell 1
  have q2 := Bq.cell 2
  have q3 := Bq.cell 3
  have q4 := Bq.cell 4
  have q5 := Bq.cell 5
  have q6 := Bq.cell 6
  have q7 := Bq.cell 7
  have qf0 := Bq.free 0
  have qf1 := Bq.free 1
  have qf2 := Bq.free 2
  have qf3 := Bq.free 3
  have qf4 := Bq.free 4
  have qf5 := Bq.free 5
  have qf6 := Bq.free 6
  have qf7 := Bq.free 7
  simp at q0 q1 q2 q3 q4 q5 q6 q7
  go_wp2
  go_ret
  exact ⟨rfl, below_set8 hw hl3 (.int .u8 (0)) (.int .i64 (0)) (.int .i64 (0)) (.int .i64 (0)) (.int .i64 (0)) (.int .i64 (0)) (.int .i64 (0)) (.int .i64 (0))⟩

set_option maxHeartbeats 8000000 in
theorem imay_001 (k m l s t c i g mode size now E2 E3 : Int) (w : World) (hl0 : 0 ≤ l) (hl9 : l ≤ 2147483647)
    (HM : Hid (mayF ⟨k, m, l, s, t, c, i, g⟩ = true))
    (H2 : Hid (linkedF ⟨k, m, l, s, t, c, i, g⟩ 1 now = (⟨0, 0, 0, 0, 0, 0, 0, 0⟩, E2)))
    (hE2 : (E2 == 0) = false)
    (H3 : Hid (sizedF ⟨k, m, l, s, t, c, i, g⟩ size now = (⟨0, 0, 0, 0, 0, 0, 0, 0⟩, E3)))
    (hE3 : (E3 == 0) = false)
    (H4 : Hid (modedF ⟨k, m, l, s, t, c, i, g⟩ mode now = (⟨k, mode, l, s, t, now, i, g⟩, 0)))
    (HM4 : Hid (mayF ⟨k, mode, l, s, t, now, i, g⟩ = true)) :
    Calls Try.prog 4 #[.agg #[.int .u8 k, .int .i64 m, .int .i64 l, .int .i64 s, .int .i64 t, .int .i64 c, .int .i64 i, .int .i64 g], .int .i64 mode, .int .i64 size, .int .i64 now] w fun e w' => e = .returned (.bool true) ∧ Below w.heap.size w w' := by
  go_enter Try.func4, Try.ntmps4
  go_wp2_with fail
  refine (mayV _ _ _ _ _ _ _ _ true _ HM.out).mono ?_
  rintro e w1 ⟨rfl, hb⟩
  have R := (RowAt.new w 23 [.int .u8 k, .int .i64 m, .int .i64 l, .int .i64 s, .int .i64 t, .int .i64 c, .int .i64 i, .int .i64 g]).next hb
  have hw := bt (b1 w _) hb
  clear hb
  go_wp2_with fail
  refine (awake_any _).mono ?_
  rintro e w2 ⟨rfl, hb⟩
  replace R := R.next hb
  replace hw := bt hw hb
  clear hb
  obtain ⟨ba, hba⟩ : ∃ ba, ba = w.heap.size := ⟨_, rfl⟩
  rw [← hba] at R ⊢
  clear hba
  have p0 := R.cell 0
  have p1 := R.cell 1
  have p2 := R.cell 2
  have p3 := R.cell 3
  have p4 := R.cell 4
  have p5 := R.cell 5
  have p6 := R.cell 6
  have p7 := R.cell 7
  simp at p0 p1 p2 p3 p4 p5 p6 p7
  go_wp2_with fail
  refine (linkedV k m l s t c i g 1 now (0) (0) (0) (0) (0) (0) (0) (0) E2 _ (by omega) (by omega) H2.out).mono ?_
  rintro e w3 ⟨rfl, hb⟩
  clear p0 p1 p2 p3 p4 p5 p6 p7
  replace R := R.next hb
  replace hw := bt hw hb
  have hl3 : w.heap.size ≤ w3.heap.size := hw.size
  have Rlt := R.lt
  clear hb
  have p0 := R.cell 0
  have p1 := R.cell 1
  have p2 := R.cell 2
  have p3 := R.cell 3
  have p4 := R.cell 4
  have p5 := R.cell 5
  have p6 := R.cell 6
  have p7 := R.cell 7
  simp at p0 p1 p2 p3 p4 p5 p6 p7
  go_wp2_with fail
  refine (sizedV k m l s t c i g size now (0) (0) (0) (0) (0) (0) (0) (0) E3 _ H3.out).mono ?_
  rintro e w6 ⟨rfl, hb⟩
  clear p0 p1 p2 p3 p4 p5 p6 p7
  replace R := (R.alloc _).next hb
  have Bq := (RowAt.new w3 23 [.int .u8 0, .int .i64 0, .int .i64 0, .int .i64 0, .int .i64 0, .int .i64 0, .int .i64 0, .int .i64 0]).next hb
  replace hw := btA hw hb
  obtain ⟨bb, hbb⟩ : ∃ bb, bb = w3.heap.size := ⟨_, rfl⟩
  rw [← hbb] at Bq hl3 Rlt ⊢
  have nab : ba ≠ bb := by omega
  clear hb hbb
  have p0 := R.cell 0
  have p1 := R.cell 1
  have p2 := R.cell 2
  have p3 := R.cell 3
  have p4 := R.cell 4
  have p5 := R.cell 5
  have p6 := R.cell 6
  have p7 := R.cell 7
  simp at p0 p1 p2 p3 p4 p5 p6 p7
  have q0 := Bq.cell 0
  have q1 := Bq.cell 1
  have q2 := Bq.cell 2
  have q3 := Bq.cell 3
  have q4 := Bq.cell 4
  have q5 := Bq.cell 5
  have q6 := Bq.cell 6
  have q7 := Bq.cell 7
  have qf0 := Bq.free 0
  have qf1 := Bq.free 1
  have qf2 := Bq.free 2
  have qf3 := Bq.free 3
  have qf4 := Bq.free 4
  have qf5 := Bq.free 5
  have qf6 := Bq.free 6
  have qf7 := Bq.free 7
  simp at q0 q1 q2 q3 q4 q5 q6 q7
  go_wp2_with fail
  refine (modedV k m l s t c i g mode now (k) (mode) (l) (s) (t) (now) (i) (g) 0 _ H4.out).mono ?_
  rintro e w9 ⟨rfl, hb⟩
  clear p0 p1 p2 p3 p4 p5 p6 p7
  clear q0 q1 q2 q3 q4 q5 q6 q7 qf0 qf1 qf2 qf3 qf4 qf5 qf6 qf7
  replace R := (R.set8o nab (.int .u8 (0)) (.int .i64 (0)) (.int .i64 (0)) (.int .i64 (0)) (.int .i64 (0)) (.int .i64 (0)) (.int .i64 (0)) (.int .i64 (0))).next hb
  replace Bq := (Bq.set8 (.int .u8 (0)) (.int .i64 (0)) (.int .i64 (0)) (.int .i64 (0)) (.int .i64 (0)) (.int .i64 (0)) (.int .i64 (0)) (.int .i64 (0))).next hb
  replace hw := bt (below_set8 hw hl3 (.int .u8 (0)) (.int .i64 (0)) (.int .i64 (0)) (.int .i64 (0)) (.int .i64 (0)) (.int .i64 (0)) (.int .i64 (0)) (.int .i64 (0))) hb
  clear hb
  have p0 := R.cell 0
  have p1 := R.cell 1
  have p2 := R.cell 2
  have p3 := R.cell 3
  have p4 := R.cell 4
  have p5 := R.cell 5
  have p6 := R.cell 6
  have p7 := R.cell 7
  simp at p0 p1 p2 p3 p4 p5 p6 p7
  have q0 := Bq.cell 0
  have q1 := Bq.cell 1
  have q2 := Bq.cell 2
  have q3 := Bq.cell 3
  have q4 := Bq.cell 4
  have q5 := Bq.cell 5
  have q6 := Bq.cell 6
  have q7 := Bq.cell 7
  have qf0 := Bq.free 0
  have qf1 := Bq.free 1
  have qf2 := Bq.free 2
  have qf3 := Bq.free 3
  have qf4 := Bq.free 4
  have qf5 := Bq.free 5
  have qf6 := Bq.free 6
  have qf7 := Bq.free 7
  simp at q0 q1 q2 q3 q4 q5 q6 q7
  go_wp2_with fail
  refine (mayV _ _ _ _ _ _ _ _ true _ HM4.out).mono ?_
  rintro e w10 ⟨rfl, hb⟩
  clear p0 p1 p2 p3 p4 p5 p6 p7
  clear q0 q1 q2 q3 q4 q5 q6 q7 qf0 qf1 qf2 qf3 qf4 qf5 qf6 qf7
  replace R := (R.set8o nab (.int .u8 (k)) (.int .i64 (mode)) (.int .i64 (l)) (.int .i64 (s)) (.int .i64 (t)) (.int .i64 (now)) (.int .i64 (i)) (.int .i64 (g))).next hb
  replace Bq := (Bq.set8 (.int .u8 (k)) (.int .i64 (mode)) (.int .i64 (l)) (.int .i64 (s)) (.int .i64 (t)) (.int .i64 (now)) (.int .i64 (i)) (.int .i64 (g))).next hb
  replace hw := bt (below_set8 hw hl3 (.int .u8 (k)) (.int .i64 (mode)) (.int .i64 (l)) (.int .i64 (s)) (.int .i64 (t)) (.int .i64 (now)) (.int .i64 (i)) (.int .i64 (g))) hb
  clear hb
  have p0 := R.cell 0
  have p1 := R.cell 1
  have p2 := R.cell 2
  have p3 := R.cell 3
  have p4 := R.cell 4
  have p5 := R.cell 5
  have p6 := R.cell 6
  have p7 := R.cell 7
  simp at p0 p1 p2 p3 p4 p5 p6 p7
  have q0 := Bq.cell 0
  have q1 := Bq.cell 1
  have q2 := Bq.cell 2
  have q3 := Bq.cell 3
  have q4 := Bq.cell 4
  have q5 := Bq.cell 5
  have q6 := Bq.cell 6
  have q7 := Bq.cell 7
  have qf0 := Bq.free 0
  have qf1 := Bq.free 1
  have qf2 := Bq.free 2
  have qf3 := Bq.free 3
  have qf4 := Bq.free 4
  have qf5 := Bq.free 5
  have qf6 := Bq.free 6
  have qf7 := Bq.free 7
  simp at q0 q1 q2 q3 q4 q5 q6 q7
  go_wp2_with fail
  go_region
  clear p0 p1 p2 p3 p4 p5 p6 p7
  clear q0 q1 q2 q3 q4 q5 q6 q7 qf0 qf1 qf2 qf3 qf4 qf5 qf6 qf7
  replace R := ((R.other 1 (.int .i64 m) nab).other 5 (.int .i64 c) nab).drew
  replace Bq := ((Bq.set 1 (.int .i64 m)).set 5 (.int .i64 c)).drew
  simp only [List.set_cons_succ, List.set_cons_zero] at Bq
  replace hw := ((hw.setCell (p := ⟨bb, 1, none⟩) hl3 (.int .i64 m)).setCell (p := ⟨bb, 5, none⟩) hl3 (.int .i64 c)).drew
  generalize hWe : World.drew _ = W9 at *
  clear hWe
  have p0 := R.cell 0
  have p1 := R.cell 1
  have p2 := R.cell 2
  have p3 := R.cell 3
  have p4 := R.cell 4
  have p5 := R.cell 5
  have p6 := R.cell 6
  have p7 := R.cell 7
  simp at p0 p1 p2 p3 p4 p5 p6 p7
  have q0 := Bq.cell 0
  have q1 := Bq.cell 1
  have q2 := Bq.cell 2
  have q3 := Bq.cell 3
  have q4 := Bq.cell 4
  have q5 := Bq.cell 5
  have q6 := Bq.cell 6
  have q7 := Bq.cell 7
  simp at q0 q1 q2 q3 q4 q5 q6 q7
  go_wp2
  go_ret
  exact ⟨rfl, hw⟩

set_option maxHeartbeats 8000000 in
theorem imay_000 (k m l s t c i g mode size now E2 E3 E4 : Int) (w : World) (hl0 : 0 ≤ l) (hl9 : l ≤ 2147483647)
    (HM : Hid (mayF ⟨k, m, l, s, t, c, i, g⟩ = true))
    (H2 : Hid (linkedF ⟨k, m, l, s, t, c, i, g⟩ 1 now = (⟨0, 0, 0, 0, 0, 0, 0, 0⟩, E2)))
    (hE2 : (E2 == 0) = false)
    (H3 : Hid (sizedF ⟨k, m, l, s, t, c, i, g⟩ size now = (⟨0, 0, 0, 0, 0, 0, 0, 0⟩, E3)))
    (hE3 : (E3 == 0) = false)
    (H4 : Hid (modedF ⟨k, m, l, s, t, c, i, g⟩ mode now = (⟨0, 0, 0, 0, 0, 0, 0, 0⟩, E4)))
    (hE4 : (E4 == 0) = false) :
    Calls Try.prog 4 #[.agg #[.int .u8 k, .int .i64 m, .int .i64 l, .int .i64 s, .int .i64 t, .int .i64 c, .int .i64 i, .int .i64 g], .int .i64 mode, .int .i64 size, .int .i64 now] w fun e w' => e = .returned (.bool true) ∧ Below w.heap.size w w' := by
  go_enter Try.func4, Try.ntmps4
  go_wp2_with fail
  refine (mayV _ _ _ _ _ _ _ _ true _ HM.out).mono ?_
  rintro e w1 ⟨rfl, hb⟩
  have R := (RowAt.new w 23 [.int .u8 k, .int .i64 m, .int .i64 l, .int .i64 s, .int .i64 t, .int .i64 c, .int .i64 i, .int .i64 g]).next hb
  have hw := bt (b1 w _) hb
  clear hb
  go_wp2_with fail
  refine (awake_any _).mono ?_
  rintro e w2 ⟨rfl, hb⟩
  replace R := R.next hb
  replace hw := bt hw hb
  clear hb
  obtain ⟨ba, hba⟩ : ∃ ba, ba = w.heap.size := ⟨_, rfl⟩
  rw [← hba] at R ⊢
  clear hba
  have p0 := R.cell 0
  have p1 := R.cell 1
  have p2 := R.cell 2
  have p3 := R.cell 3
  have p4 := R.cell 4
  have p5 := R.cell 5
  have p6 := R.cell 6
  have p7 := R.cell 7
  simp at p0 p1 p2 p3 p4 p5 p6 p7
  go_wp2_with fail
  refine (linkedV k m l s t c i g 1 now (0) (0) (0) (0) (0) (0) (0) (0) E2 _ (by omega) (by omega) H2.out).mono ?_
  rintro e w3 ⟨rfl, hb⟩
  clear p0 p1 p2 p3 p4 p5 p6 p7
  replace R := R.next hb
  replace hw := bt hw hb
  have hl3 : w.heap.size ≤ w3.heap.size := hw.size
  have Rlt := R.lt
  clear hb
  have p0 := R.cell 0
  have p1 := R.cell 1
  have p2 := R.cell 2
  have p3 := R.cell 3
  have p4 := R.cell 4
  have p5 := R.cell 5
  have p6 := R.cell 6
  have p7 := R.cell 7
  simp at p0 p1 p2 p3 p4 p5 p6 p7
  go_wp2_with fail
  refine (sizedV k m l s t c i g size now (0) (0) (0) (0) (0) (0) (0) (0) E3 _ H3.out).mono ?_
  rintro e w6 ⟨rfl, hb⟩
  clear p0 p1 p2 p3 p4 p5 p6 p7
  replace R := (R.alloc _).next hb
  have Bq := (RowAt.new w3 23 [.int .u8 0, .int .i64 0, .int .i64 0, .int .i64 0, .int .i64 0, .int .i64 0, .int .i64 0, .int .i64 0]).next hb
  replace hw := btA hw hb
  obtain ⟨bb, hbb⟩ : ∃ bb, bb = w3.heap.size := ⟨_, rfl⟩
  rw [← hbb] at Bq hl3 Rlt ⊢
  have nab : ba ≠ bb := by omega
  clear hb hbb
  have p0 := R.cell 0
  have p1 := R.cell 1
  have p2 := R.cell 2
  have p3 := R.cell 3
  have p4 := R.cell 4
  have p5 := R.cell 5
  have p6 := R.cell 6
  have p7 := R.cell 7
  simp at p0 p1 p2 p3 p4 p5 p6 p7
  have q0 := Bq.cell 0
  have q1 := Bq.cell 1
  have q2 := Bq.cell 2
  have q3 := Bq.cell 3
  have q4 := Bq.cell 4
  have q5 := Bq.cell 5
  have q6 := Bq.cell 6
  have q7 := Bq.cell 7
  have qf0 := Bq.free 0
  have qf1 := Bq.free 1
  have qf2 := Bq.free 2
  have qf3 := Bq.free 3
  have qf4 := Bq.free 4
  have qf5 := Bq.free 5
  have qf6 := Bq.free 6
  have qf7 := Bq.free 7
  simp at q0 q1 q2 q3 q4 q5 q6 q7
  go_wp2_with fail
  refine (modedV k m l s t c i g mode now (0) (0) (0) (0) (0) (0) (0) (0) E4 _ H4.out).mono ?_
  rintro e w9 ⟨rfl, hb⟩
  clear p0 p1 p2 p3 p4 p5 p6 p7
  clear q0 q1 q2 q3 q4 q5 q6 q7 qf0 qf1 qf2 qf3 qf4 qf5 qf6 qf7
  replace R := (R.set8o nab (.int .u8 (0)) (.int .i64 (0)) (.int .i64 (0)) (.int .i64 (0)) (.int .i64 (0)) (.int .i64 (0)) (.int .i64 (0)) (.int .i64 (0))).next hb
  replace Bq := (Bq.set8 (.int .u8 (0)) (.int .i64 (0)) (.int .i64 (0)) (.int .i64 (0)) (.int .i64 (0)) (.int .i64 (0)) (.int .i64 (0)) (.int .i64 (0))).next hb
  replace hw := bt (below_set8 hw hl3 (.int .u8 (0)) (.int .i64 (0)) (.int .i64 (0)) (.int .i64 (0)) (.int .i64 (0)) (.int .i64 (0)) (.int .i64 (0)) (.int .i64 (0))) hb
  clear hb
  have q0 := Bq.cell 0
  have q1 := Bq.cell 1
  have q2 := Bq.cell 2
  have q3 := Bq.cell 3
  have q4 := Bq.cell 4
  have q5 := Bq.cell 5
  have q6 := Bq.cell 6
  have q7 := Bq.cell 7
  have qf0 := Bq.free 0
  have qf1 := Bq.free 1
  have qf2 := Bq.free 2
  have qf3 := Bq.free 3
  have qf4 := Bq.free 4
  have qf5 := Bq.free 5
  have qf6 := Bq.free 6
  have qf7 := Bq.free 7
  simp at q0 q1 q2 q3 q4 q5 q6 q7
  go_wp2
  go_ret
  exact ⟨rfl, below_set8 hw hl3 (.int .u8 (0)) (.int .i64 (0)) (.int .i64 (0)) (.int .i64 (0)) (.int .i64 (0)) (.int .i64 (0)) (.int .i64 (0)) (.int .i64 (0))⟩

set_option maxHeartbeats 4000000 in
theorem imay_no (k m l s t c i g mode size now : Int) (w : World) (h : mayF ⟨k, m, l, s, t, c, i, g⟩ = false) :
    Calls Try.prog 4 #[.agg #[.int .u8 k, .int .i64 m, .int .i64 l, .int .i64 s, .int .i64 t, .int .i64 c, .int .i64 i, .int .i64 g], .int .i64 mode, .int .i64 size, .int .i64 now] w fun e w' => e = .returned (.bool true) ∧ Below w.heap.size w w' := by
  have HM := Lib.hid h
  clear h
  go_enter Try.func4, Try.ntmps4
  go_wp2_with fail
  refine (mayV _ _ _ _ _ _ _ _ false _ HM.out).mono ?_
  rintro e w1 ⟨rfl, hb⟩
  have hw := bt (b1 w _) hb
  clear hb
  go_wp2_with fail
  refine (awake_any _).mono ?_
  rintro e w2 ⟨rfl, hb⟩
  go_wp2
  go_ret
  exact ⟨rfl, bt hw hb⟩
theorem linked_cases (k m l s t c i g now : Int) (hl : 0 ≤ l) : (linkedF ⟨k, m, l, s, t, c, i, g⟩ 1 now = (⟨k, m, l + 1, s, t, now, i, g⟩, 0) ∧ 0 ≤ now ∧ now ≤ 2147483647 ∧ l + 1 ≤ 2147483647) ∨ ∃ E, linkedF ⟨k, m, l, s, t, c, i, g⟩ 1 now = (⟨0, 0, 0, 0, 0, 0, 0, 0⟩, E) ∧ (E == 0) = false := by
  unfold linkedF
  split
  · exact .inr ⟨1, rfl, rfl⟩
  · split
    · exact .inr ⟨50, rfl, rfl⟩
    · rename_i h1 h2; simp at h1 h2; exact .inl ⟨rfl, by omega, by omega, by omega⟩
theorem sized_cases (k m l s t c i g z now : Int) : (sizedF ⟨k, m, l, s, t, c, i, g⟩ z now = (⟨k, m, l, z, now, now, i, g⟩, 0) ∧ k = 1 ∧ 0 ≤ z ∧ z ≤ 32768 ∧ 0 ≤ now ∧ now ≤ 2147483647) ∨ ∃ E, sizedF ⟨k, m, l, s, t, c, i, g⟩ z now = (⟨0, 0, 0, 0, 0, 0, 0, 0⟩, E) ∧ (E == 0) = false := by
  unfold sizedF
  split
  · exact .inr ⟨55, rfl, rfl⟩
  · split
    · exact .inr ⟨1, rfl, rfl⟩
    · split
      · exact .inr ⟨40, rfl, rfl⟩
      · rename_i h1 h2 h3; simp at h1 h2 h3; exact .inl ⟨rfl, by omega, by omega, by omega, by omega, by omega⟩
theorem moded_cases (k m l s t c i g z now : Int) : (modedF ⟨k, m, l, s, t, c, i, g⟩ z now = (⟨k, z, l, s, t, now, i, g⟩, 0) ∧ 0 ≤ z ∧ z ≤ 4095 ∧ 0 ≤ now ∧ now ≤ 2147483647) ∨ ∃ E, modedF ⟨k, m, l, s, t, c, i, g⟩ z now = (⟨0, 0, 0, 0, 0, 0, 0, 0⟩, E) ∧ (E == 0) = false := by
  unfold modedF
  split
  · exact .inr ⟨1, rfl, rfl⟩
  · rename_i h1; simp at h1; exact .inl ⟨rfl, by omega, by omega, by omega, by omega⟩
theorem imay_any (k m l s t c i g mode size now : Int) (w : World) (h0 : -9223372036854775808 ≤ l) (h9 : l ≤ 9223372036854775807) :
    Calls Try.prog 4 #[.agg #[.int .u8 k, .int .i64 m, .int .i64 l, .int .i64 s, .int .i64 t, .int .i64 c, .int .i64 i, .int .i64 g], .int .i64 mode, .int .i64 size, .int .i64 now] w fun e w' => e = .returned (.bool true) ∧ Below w.heap.size w w' := by
  cases hm : mayF ⟨k, m, l, s, t, c, i, g⟩
  · exact imay_no k m l s t c i g mode size now w hm
  have hM := hm
  simp only [mayF, decide_eq_true_eq] at hM
  obtain ⟨m1, m2, m3, m4, m5, m6, m7, m8, m9, m10, m11, m12, m13, m14, m15, m16, m17, m18⟩ := hM
  have L1 : (linkedF ⟨k, m, l, s, t, c, i, g⟩ 1 now = (⟨k, m, l + 1, s, t, now, i, g⟩, 0) ∧ l + 1 ≤ 2147483647 ∧ linkedF ⟨k, m, l + 1, s, t, now, i, g⟩ (-1) now = (⟨k, m, l, s, t, now, i, g⟩, 0) ∧ mayF ⟨k, m, l + 1, s, t, now, i, g⟩ = true) ∨ ∃ E, linkedF ⟨k, m, l, s, t, c, i, g⟩ 1 now = (⟨0, 0, 0, 0, 0, 0, 0, 0⟩, E) ∧ (E == 0) = false := by
    rcases linked_cases k m l s t c i g now m5 with ⟨a1, a2, a3, a4⟩ | h
    · refine .inl ⟨a1, a4, ?_, ?_⟩
      · unfold linkedF
        rw [if_neg (by simp; omega), if_neg (by simp; omega)]
        simp
        omega
      · simp only [mayF, decide_eq_true_eq]
        exact ⟨m1, m2, m3, m4, by omega, by omega, m7, m8, m9, m10, by omega, by omega, m13, m14, m15, m16, m17, m18⟩
    · exact .inr h
  have S1 : (sizedF ⟨k, m, l, s, t, c, i, g⟩ size now = (⟨k, m, l, size, now, now, i, g⟩, 0) ∧ mayF ⟨k, m, l, size, now, now, i, g⟩ = true) ∨ ∃ E, sizedF ⟨k, m, l, s, t, c, i, g⟩ size now = (⟨0, 0, 0, 0, 0, 0, 0, 0⟩, E) ∧ (E == 0) = false := by
    rcases sized_cases k m l s t c i g size now with ⟨a1, a2, a3, a4, a5, a6⟩ | h
    · refine .inl ⟨a1, ?_⟩
      simp only [mayF, decide_eq_true_eq]
      exact ⟨m1, m2, m3, m4, m5, m6, a3, by omega, a5, a6, a5, a6, m13, m14, m15, m16, fun _ => a4, fun h => by omega⟩
    · exact .inr h
  have M1 : (modedF ⟨k, m, l, s, t, c, i, g⟩ mode now = (⟨k, mode, l, s, t, now, i, g⟩, 0) ∧ mayF ⟨k, mode, l, s, t, now, i, g⟩ = true) ∨ ∃ E, modedF ⟨k, m, l, s, t, c, i, g⟩ mode now = (⟨0, 0, 0, 0, 0, 0, 0, 0⟩, E) ∧ (E == 0) = false := by
    rcases moded_cases k m l s t c i g mode now with ⟨a1, a2, a3, a4, a5⟩ | h
    · refine .inl ⟨a1, ?_⟩
      simp only [mayF, decide_eq_true_eq]
      exact ⟨m1, m2, a2, a3, m5, m6, m7, m8, m9, m10, a4, a5, m13, m14, m15, m16, m17, m18⟩
    · exact .inr h
  clear m1 m2 m3 m4 m7 m8 m9 m10 m11 m12 m13 m14 m15 m16 m17 m18
  rcases L1 with ⟨x1, x2, x3, x4⟩ | ⟨E2, x1, x2⟩
  all_goals rcases S1 with ⟨y1, y2⟩ | ⟨E3, y1, y2⟩
  all_goals rcases M1 with ⟨z1, z2⟩ | ⟨E4, z1, z2⟩
  · exact imay_111 k m l s t c i g mode size now w m5 m6 (Lib.hid hm) (Lib.hid x1) (Lib.hid x3) (Lib.hid x4) (by omega) (Lib.hid y1) (Lib.hid y2) (Lib.hid z1) (Lib.hid z2)
  · exact imay_110 k m l s t c i g mode size now E4 w m5 m6 (Lib.hid hm) (Lib.hid x1) (Lib.hid x3) (Lib.hid x4) (by omega) (Lib.hid y1) (Lib.hid y2) (Lib.hid z1) z2
  · exact imay_101 k m l s t c i g mode size now E3 w m5 m6 (Lib.hid hm) (Lib.hid x1) (Lib.hid x3) (Lib.hid x4) (by omega) (Lib.hid y1) y2 (Lib.hid z1) (Lib.hid z2)
  · exact imay_100 k m l s t c i g mode size now E3 E4 w m5 m6 (Lib.hid hm) (Lib.hid x1) (Lib.hid x3) (Lib.hid x4) (by omega) (Lib.hid y1) y2 (Lib.hid z1) z2
  · exact imay_011 k m l s t c i g mode size now E2 w m5 m6 (Lib.hid hm) (Lib.hid x1) x2 (Lib.hid y1) (Lib.hid y2) (Lib.hid z1) (Lib.hid z2)
  · exact imay_010 k m l s t c i g mode size now E2 E4 w m5 m6 (Lib.hid hm) (Lib.hid x1) x2 (Lib.hid y1) (Lib.hid y2) (Lib.hid z1) z2
  · exact imay_001 k m l s t c i g mode size now E2 E3 w m5 m6 (Lib.hid hm) (Lib.hid x1) x2 (Lib.hid y1) y2 (Lib.hid z1) (Lib.hid z2)
  · exact imay_000 k m l s t c i g mode size now E2 E3 E4 w m5 m6 (Lib.hid hm) (Lib.hid x1) x2 (Lib.hid y1) y2 (Lib.hid z1) z2
end Go.Proofs.Ytochpjoanldfpaa
