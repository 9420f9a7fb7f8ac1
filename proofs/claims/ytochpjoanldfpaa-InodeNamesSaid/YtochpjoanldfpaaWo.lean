/- InodeNames walked: it returns true. -/
import Derived.Test.YtochpjoanldfpaaWn
namespace Go.Proofs.Ytochpjoanldfpaa
open Go.RowKit

set_option maxRecDepth 100000 in
set_option maxHeartbeats 16000000 in
theorem names_any (w : World) : Calls Try.prog 6 #[] w fun e w' => e = .returned (.bool true) ∧ Below w.heap.size w w' := by
  go_enter Try.func6, Try.ntmps6
  go_wp2_with fail
  refine (newV 1 420 5 1 3 1 420 1 0 3 3 5 1 0 _ (by decide +kernel)).mono ?_
  rintro e w1 ⟨rfl, hb⟩
  have hw := hb
  clear hb
  go_wp2_with fail
  refine (newV 4 0 1 0 0 0 0 0 0 0 0 0 0 1 _ (by decide +kernel)).mono ?_
  rintro e w2 ⟨rfl, hb⟩
  have A := (RowAt.new w1 23 [.int .u8 1, .int .i64 420, .int .i64 1, .int .i64 0, .int .i64 3, .int .i64 3, .int .i64 5, .int .i64 1]).next hb
  have hbl : w.heap.size ≤ w1.heap.size := hw.size
  replace hw := btA hw hb
  clear hb
  obtain ⟨ba, hba⟩ : ∃ ba, ba = w1.heap.size := ⟨_, rfl⟩
  rw [← hba] at A hbl ⊢
  clear hba
  go_wp2_with fail
  refine (newV 1 4096 1 0 0 0 0 0 0 0 0 0 0 1 _ (by decide +kernel)).mono ?_
  rintro e w3 ⟨rfl, hb⟩
  replace A := (A.alloc _).next hb
  replace hw := btA hw hb
  clear hb
  go_wp2_with fail
  refine (newV 1 0 2147483647 0 0 0 0 0 0 0 0 0 0 1 _ (by decide +kernel)).mono ?_
  rintro e w4 ⟨rfl, hb⟩
  replace A := (A.alloc _).next hb
  replace hw := btA hw hb
  clear hb
  go_wp2_with fail
  refine (newV 1 0 0 0 0 0 0 0 0 0 0 0 0 1 _ (by decide +kernel)).mono ?_
  rintro e w5 ⟨rfl, hb⟩
  replace A := (A.alloc _).next hb
  replace hw := btA hw hb
  clear hb
  have p0 := A.cell 0
  have p1 := A.cell 1
  have p2 := A.cell 2
  have p3 := A.cell 3
  have p4 := A.cell 4
  have p5 := A.cell 5
  have p6 := A.cell 6
  have p7 := A.cell 7
  have pz := A.lt
  simp at p0 p1 p2 p3 p4 p5 p6 p7
  go_wp2_with fail
  refine (sizedV 1 420 1 0 3 3 5 1 32768 4 1 420 1 32768 4 4 5 1 0 _ (by decide +kernel)).mono ?_
  rintro e w6 ⟨rfl, hb⟩
  clear p0 p1 p2 p3 p4 p5 p6 p7 pz
  replace A := (A.alloc _).next hb
  replace hw := btA hw hb
  clear hb
  have p0 := A.cell 0
  have p1 := A.cell 1
  have p2 := A.cell 2
  have p3 := A.cell 3
  have p4 := A.cell 4
  have p5 := A.cell 5
  have p6 := A.cell 6
  have p7 := A.cell 7
  have pz := A.lt
  simp at p0 p1 p2 p3 p4 p5 p6 p7
  go_wp2_with fail
  refine (sizedV 1 420 1 0 3 3 5 1 32769 4 0 0 0 0 0 0 0 0 40 _ (by decide +kernel)).mono ?_
  rintro e w7 ⟨rfl, hb⟩
  clear p0 p1 p2 p3 p4 p5 p6 p7 pz
  replace A := (A.alloc _).next hb
  replace hw := btA hw hb
  clear hb
  have p0 := A.cell 0
  have p1 := A.cell 1
  have p2 := A.cell 2
  have p3 := A.cell 3
  have p4 := A.cell 4
  have p5 := A.cell 5
  have p6 := A.cell 6
  have p7 := A.cell 7
  have pz := A.lt
  simp at p0 p1 p2 p3 p4 p5 p6 p7
  go_wp2_with fail
  refine (sizedV 1 420 1 0 3 3 5 1 (-1) 4 0 0 0 0 0 0 0 0 1 _ (by decide +kernel)).mono ?_
  rintro e w8 ⟨rfl, hb⟩
  clear p0 p1 p2 p3 p4 p5 p6 p7 pz
  replace A := (A.alloc _).next hb
  replace hw := btA hw hb
  clear hb
  have p0 := A.cell 0
  have p1 := A.cell 1
  have p2 := A.cell 2
  have p3 := A.cell 3
  have p4 := A.cell 4
  have p5 := A.cell 5
  have p6 := A.cell 6
  have p7 := A.cell 7
  have pz := A.lt
  simp at p0 p1 p2 p3 p4 p5 p6 p7
  go_wp2_with fail
  refine (linkedV 1 420 1 0 3 3 5 1 (-1) 4 1 420 0 0 3 4 5 1 0 _ (by decide) (by decide) (by decide +kernel)).mono ?_
  rintro e w9 ⟨rfl, hb⟩
  clear p0 p1 p2 p3 p4 p5 p6 p7 pz
  replace A := (A.alloc _).next hb
  replace hw := btA hw hb
  clear hb
  go_wp2_with fail
  refine (linkedV 1 420 0 0 3 4 5 1 (-1) 4 0 0 0 0 0 0 0 0 50 _ (by decide) (by decide) (by decide +kernel)).mono ?_
  rintro e w10 ⟨rfl, hb⟩
  have alt := A.lt
  have Bq := (RowAt.new w9 23 [.int .u8 1, .int .i64 420, .int .i64 0, .int .i64 0, .int .i64 3, .int .i64 4, .int .i64 5, .int .i64 1]).next hb
  replace A := (A.alloc _).next hb
  replace hw := btA hw hb
  clear hb
  obtain ⟨bb, hbb⟩ : ∃ bb, bb = w9.heap.size := ⟨_, rfl⟩
  rw [← hbb] at Bq ⊢
  have hne : bb ≠ ba := by omega
  clear hbb
  have p0 := A.cell 0
  have p1 := A.cell 1
  have p2 := A.cell 2
  have p3 := A.cell 3
  have p4 := A.cell 4
  have p5 := A.cell 5
  have p6 := A.cell 6
  have p7 := A.cell 7
  have pz := A.lt
  simp at p0 p1 p2 p3 p4 p5 p6 p7
  go_wp2_with fail
  refine (linkedV 1 420 1 0 3 3 5 1 2 4 0 0 0 0 0 0 0 0 1 _ (by decide) (by decide) (by decide +kernel)).mono ?_
  rintro e w11 ⟨rfl, hb⟩
  clear p0 p1 p2 p3 p4 p5 p6 p7 pz
  replace A := (A.alloc _).next hb
  replace Bq := (Bq.alloc _).next hb
  replace hw := btA hw hb
  clear hb
  have p0 := A.cell 0
  have p1 := A.cell 1
  have p2 := A.cell 2
  have p3 := A.cell 3
  have p4 := A.cell 4
  have p5 := A.cell 5
  have p6 := A.cell 6
  have p7 := A.cell 7
  have pz := A.lt
  simp at p0 p1 p2 p3 p4 p5 p6 p7
  go_wp2_with fail
  refine (linkedV 1 420 1 0 3 3 5 1 1 (-1) 0 0 0 0 0 0 0 0 1 _ (by decide) (by decide) (by decide +kernel)).mono ?_
  rintro e w12 ⟨rfl, hb⟩
  clear p0 p1 p2 p3 p4 p5 p6 p7 pz
  replace A := (A.alloc _).next hb
  replace Bq := (Bq.alloc _).next hb
  replace hw := btA hw hb
  clear hb
  have p0 := A.cell 0
  have p1 := A.cell 1
  have p2 := A.cell 2
  have p3 := A.cell 3
  have p4 := A.cell 4
  have p5 := A.cell 5
  have p6 := A.cell 6
  have p7 := A.cell 7
  have pz := A.lt
  simp at p0 p1 p2 p3 p4 p5 p6 p7
  have fz := A.free 2
  go_wp2_with fail
  refine (linkedV 1 420 2147483647 0 3 3 5 1 1 4 0 0 0 0 0 0 0 0 50 _ (by decide) (by decide) (by decide +kernel)).mono ?_
  rintro e w13 ⟨rfl, hb⟩
  clear p0 p1 p2 p3 p4 p5 p6 p7 fz
  replace hw := bt (bA (hw.setCell (p := ⟨ba, 2, none⟩) hbl (.int .i64 2147483647)) _) hb
  replace Bq := ((Bq.other 2 (.int .i64 2147483647) hne).alloc _).next hb
  clear hb A pz
  go_wp2_with fail
  refine (encMeta_any 2 3 [109, 0, 0, 0, 2, 0, 0, 0, 3] 0 _ (by decide +kernel)).mono ?_
  rintro e w14 ⟨rfl, hb⟩
  replace Bq := (Bq.alloc _).next hb
  replace hw := btA hw hb
  clear hb
  go_wp2_with fail
  refine (decMeta_any _ 0 0 4 _ (by decide +kernel)).mono ?_
  rintro e w15 ⟨rfl, hb⟩
  replace Bq := Bq.next hb
  replace hw := bt hw hb
  clear hb
  go_wp2_with fail
  refine (decodeV _ 0 0 0 0 0 0 0 0 4 _ (by decide +kernel)).mono ?_
  rintro e w16 ⟨rfl, hb⟩
  replace Bq := (Bq.alloc _).next hb
  replace hw := btA hw hb
  clear hb
  have bz := Bq.lt
  have q2 := Bq.cell 2
  simp at q2
  go_wp2_with fail
  refine (mayV 3 0 0 161 0 0 1 0 false _ (by decide +kernel)).mono ?_
  rintro e w17 ⟨rfl, hb⟩
  replace hw := btA hw hb
  clear hb q2 bz Bq
  go_wp2_with fail
  refine (mayV 3 0 0 160 0 0 1 0 true _ (by decide +kernel)).mono ?_
  rintro e w18 ⟨rfl, hb⟩
  replace hw := bt hw hb
  clear hb
  go_wp2_with fail
  refine (awake_any _).mono ?_
  rintro e w19 ⟨rfl, hb⟩
  replace hw := bt hw hb
  clear hb
  go_wp2
  go_ret
  exact ⟨rfl, hw⟩
end Go.Proofs.Ytochpjoanldfpaa
