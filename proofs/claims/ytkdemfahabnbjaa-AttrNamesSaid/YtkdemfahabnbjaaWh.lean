/- AttrNames walked: it returns true. -/
import Derived.Test.YtkdemfahabnbjaaWf
namespace Go.Proofs.Ytkdemfahabnbjaa
open Go.RowKit
set_option maxRecDepth 100000 in
set_option maxHeartbeats 4000000 in
theorem attrNames_any (w : World) : Calls Try.prog 5 #[] w fun e w' => e = .returned (.bool true) ∧ Below w.heap.size w w' := by
  go_enter Try.func5, Try.ntmps5
  go_wp2_with fail
  refine (planV 1 5 0 9 4 6 2 0 (-1) (-1) 5 9 0 0 0 0 0 0 0 0 59 _ rfl).mono ?_
  rintro e w1 ⟨rfl, hb⟩
  have A := (AttAt.new w 1 5 0 9 4 6 2 0).next hb
  have z0 : w.heap.size < w1.heap.size := by have := hb.size; simp at this; omega
  have hw := btA (Below.refl _ w) hb
  clear hb
  have qA := A.cell
  go_wp2_with fail
  clear qA
  refine (planV 1 5 0 9 4 6 2 0 (-1) (-1) 6 9 1 5 0 9 4 6 2 0 0 _ rfl).mono ?_
  rintro e w2 ⟨rfl, hb⟩
  have A := (A.alloc _).next hb
  have hs : w1.heap.size < w2.heap.size := by have := hb.size; simp at this; omega
  have z0 : w.heap.size < w2.heap.size := by omega
  have hw := btA hw hb
  clear hb
  have qA := A.cell
  go_wp2_with fail
  clear qA
  refine (planV 1 5 0 9 4 6 2 0 7 (-1) (-1) 9 1 7 0 9 4 9 2 0 0 _ rfl).mono ?_
  rintro e w3 ⟨rfl, hb⟩
  have A := (A.alloc _).next hb
  have hs : w2.heap.size < w3.heap.size := by have := hb.size; simp at this; omega
  have z0 : w.heap.size < w3.heap.size := by omega
  have B := (AttAt.new w2 1 5 0 9 4 6 2 0).next hb
  have zB : w2.heap.size < w3.heap.size := hs
  have hw := btA hw hb
  clear hb
  have qA := A.cell
  go_wp2_with fail
  clear qA
  refine (planV 1 5 0 9 4 6 2 0 (-1) 3 (-1) 9 1 5 0 3 9 9 2 0 0 _ rfl).mono ?_
  rintro e w4 ⟨rfl, hb⟩
  have A := (A.alloc _).next hb
  have hs : w3.heap.size < w4.heap.size := by have := hb.size; simp at this; omega
  have z0 : w.heap.size < w4.heap.size := by omega
  have B := (B.alloc _).next hb
  have zB : w2.heap.size < w4.heap.size := by omega
  have C := (AttAt.new w3 1 7 0 9 4 9 2 0).next hb
  have zC : w3.heap.size < w4.heap.size := hs
  have hw := btA hw hb
  clear hb
  have qA := A.cell
  go_wp2_with fail
  clear qA
  refine (planV 1 5 0 9 4 6 2 0 (-1) 32769 5 9 0 0 0 0 0 0 0 0 59 _ rfl).mono ?_
  rintro e w5 ⟨rfl, hb⟩
  have A := (A.alloc _).next hb
  have hs : w4.heap.size < w5.heap.size := by have := hb.size; simp at this; omega
  have z0 : w.heap.size < w5.heap.size := by omega
  have B := (B.alloc _).next hb
  have zB : w2.heap.size < w5.heap.size := by omega
  have C := (C.alloc _).next hb
  have zC : w3.heap.size < w5.heap.size := by omega
  have D := (AttAt.new w4 1 5 0 3 9 9 2 0).next hb
  have zD : w4.heap.size < w5.heap.size := hs
  have hw := btA hw hb
  clear hb
  have qA := A.cell
  go_wp2_with fail
  clear qA
  refine (planV 1 5 0 9 4 6 2 0 (-1) 32769 (-1) 9 0 0 0 0 0 0 0 0 40 _ rfl).mono ?_
  rintro e w6 ⟨rfl, hb⟩
  have A := (A.alloc _).next hb
  have hs : w5.heap.size < w6.heap.size := by have := hb.size; simp at this; omega
  have z0 : w.heap.size < w6.heap.size := by omega
  have B := (B.alloc _).next hb
  have zB : w2.heap.size < w6.heap.size := by omega
  have C := (C.alloc _).next hb
  have zC : w3.heap.size < w6.heap.size := by omega
  have D := (D.alloc _).next hb
  have zD : w4.heap.size < w6.heap.size := by omega
  have hw := btA hw hb
  clear hb
  have qA := A.cell
  go_wp2_with fail
  clear qA
  refine (planV 2 0 0 0 0 0 0 0 (-1) 0 (-1) 9 0 0 0 0 0 0 0 0 55 _ rfl).mono ?_
  rintro e w7 ⟨rfl, hb⟩
  have A := (A.alloc _).next hb
  have hs : w6.heap.size < w7.heap.size := by have := hb.size; simp at this; omega
  have z0 : w.heap.size < w7.heap.size := by omega
  have B := (B.alloc _).next hb
  have zB : w2.heap.size < w7.heap.size := by omega
  have C := (C.alloc _).next hb
  have zC : w3.heap.size < w7.heap.size := by omega
  have D := (D.alloc _).next hb
  have zD : w4.heap.size < w7.heap.size := by omega
  have hw := btA hw hb
  clear hb
  have qA := A.cell
  go_wp2_with fail
  clear qA
  refine (planV 1 5 0 9 4 6 2 0 (-2) (-1) (-1) 9 0 0 0 0 0 0 0 0 1 _ rfl).mono ?_
  rintro e w8 ⟨rfl, hb⟩
  have A := (A.alloc _).next hb
  have hs : w7.heap.size < w8.heap.size := by have := hb.size; simp at this; omega
  have z0 : w.heap.size < w8.heap.size := by omega
  have B := (B.alloc _).next hb
  have zB : w2.heap.size < w8.heap.size := by omega
  have C := (C.alloc _).next hb
  have zC : w3.heap.size < w8.heap.size := by omega
  have D := (D.alloc _).next hb
  have zD : w4.heap.size < w8.heap.size := by omega
  have hw := btA hw hb
  clear hb
  have qA := A.cell
  go_wp2_with fail
  clear qA
  refine (planV 1 5 0 9 4 6 2 0 4096 (-1) (-1) 9 0 0 0 0 0 0 0 0 1 _ rfl).mono ?_
  rintro e w9 ⟨rfl, hb⟩
  have A := (A.alloc _).next hb
  have hs : w8.heap.size < w9.heap.size := by have := hb.size; simp at this; omega
  have z0 : w.heap.size < w9.heap.size := by omega
  have B := (B.alloc _).next hb
  have zB : w2.heap.size < w9.heap.size := by omega
  have C := (C.alloc _).next hb
  have zC : w3.heap.size < w9.heap.size := by omega
  have D := (D.alloc _).next hb
  have zD : w4.heap.size < w9.heap.size := by omega
  have hw := btA hw hb
  clear hb
  have qA := A.cell
  go_wp2_with fail
  clear qA
  refine (planV 1 5 0 9 4 6 2 0 (-1) (-1) (-1) (-1) 0 0 0 0 0 0 0 0 1 _ rfl).mono ?_
  rintro e w10 ⟨rfl, hb⟩
  have A := (A.alloc _).next hb
  have hs : w9.heap.size < w10.heap.size := by have := hb.size; simp at this; omega
  have z0 : w.heap.size < w10.heap.size := by omega
  have B := (B.alloc _).next hb
  have zB : w2.heap.size < w10.heap.size := by omega
  have C := (C.alloc _).next hb
  have zC : w3.heap.size < w10.heap.size := by omega
  have D := (D.alloc _).next hb
  have zD : w4.heap.size < w10.heap.size := by omega
  have hw := btA hw hb
  clear hb
  have qA := A.cell
  have qB := B.cell
  have qC := C.cell
  have qD := D.cell
  go_wp2_with fail
  clear qA qB qC qD
  refine (part_lit 0 (-5) 9223372036854775808 _ (by decide +kernel)).mono ?_
  rintro e u1 ⟨rfl, hb1⟩
  go_wp2_with fail
  refine (part_lit (-1) 0 18442240474082181120 _ (by decide +kernel)).mono ?_
  rintro e u2 ⟨rfl, hb2⟩
  go_wp2_with fail
  refine (mean_lit none 0 0 [] 9221120237041090561 _ ⟨rfl, .inl rfl⟩ (by omega) (by decide +kernel)).mono ?_
  rintro e u3 ⟨rfl, hb3⟩
  have hw := bt (bt (btA hw hb1) hb2) hb3
  go_wp2_with fail
  refine (less_lit _ _ false _ (by decide +kernel)).mono ?_
  rintro e u ⟨rfl, rfl⟩
  go_wp2_with fail
  refine (less_lit _ _ false _ (by decide +kernel)).mono ?_
  rintro e u ⟨rfl, rfl⟩
  go_wp2_with fail
  refine (less_lit _ _ false _ (by decide +kernel)).mono ?_
  rintro e u ⟨rfl, rfl⟩
  go_wp2_with fail
  refine (less_lit _ _ true _ (by decide +kernel)).mono ?_
  rintro e u ⟨rfl, rfl⟩
  go_wp2_with fail
  refine (awake_any _).mono ?_
  rintro e u4 ⟨rfl, hb4⟩
  go_wp2_with fail
  go_ret
  exact ⟨rfl, bt hw hb4⟩
end Go.Proofs.Ytkdemfahabnbjaa
