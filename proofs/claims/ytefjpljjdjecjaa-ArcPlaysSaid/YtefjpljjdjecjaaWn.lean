/- New, and what is nobody's. -/
import Derived.Test.YtefjpljjdjecjaaWm
namespace Go.Proofs.Ytefjpljjdjecjaa
open Go.RowKit
def emptyR : Nat → List It := fun _ => []
def newCs (mb : Nat) (c : Int) : Cs := ⟨emptyR, mb, c, 0⟩
def newCells (mb : Nat) (c : Int) : List Value := cells emptyR (.map (some mb)) c 0
theorem new_ca (w : World) (c : Int) (h1 : 1 ≤ c) (h2 : c ≤ 1024) : CA ((w.alloc (.map #[] 0)).alloc (.cells (newCells w.heap.size c).toArray 69)) (w.heap.size + 1) (newCs w.heap.size c) := by
  have hs : (w.alloc (.map #[] 0)).heap.size = w.heap.size + 1 := by simp
  have hrow : RowAt ((w.alloc (.map #[] 0)).alloc (.cells (newCells w.heap.size c).toArray 69)) (w.heap.size + 1) 69 (newCells w.heap.size c) := by
    have := RowAt.new (w.alloc (.map #[] 0)) 69 (newCells w.heap.size c)
    rwa [hs] at this
  have he : ∀ x : It, x ∉ allI emptyR := by intro x hx; simp [allI, emptyR] at hx
  refine ⟨⟨hrow, fun r _ => trivial, ?_, fun x hx => absurd hx (he x), fun r _ => by simp [newCs, emptyR]⟩, ?_, ?_, ?_, fun x hx => absurd hx (he x), fun x hx => absurd hx (he x), ⟨h1, h2⟩, ⟨by simp [newCs], by simp [newCs]; omega⟩⟩
  · simp [newCs, allI, emptyR]
  · refine ((MapAt.made w).next ((Below.refl _ _).alloc (Nat.le_refl _) _)).ext fun k => ?_
    simp [mapOf, newCs, allI, emptyR, fk]
  · simp [newCs, allI, emptyR]
  · simp [newCs]
theorem make61 (w : World) : (Instr.makeMap 61 none).run Try.prog w = .ok (.map (some w.heap.size)) (w.alloc (.map #[] 0)) := by
  first | rfl | (simp [Instr.makeMap, go_sem])
set_option maxHeartbeats 1000000 in
theorem new_any (w : World) (c : Int) (h1 : 1 ≤ c) (h2 : c ≤ 1024) :
    Calls Try.prog 9 #[.int .i64 c] w fun e w' => ∃ cb mb, e = .returned (.tuple #[.pointer (some ⟨cb, 0, none⟩), .int .i64 0]) ∧ CA w' cb (newCs mb c) ∧ w.heap.size ≤ cb ∧ w.heap.size ≤ mb ∧ Below w.heap.size w w' := by
  have H := Lib.hid (new_ca w c h1 h2)
  have hmk := make61
  go_enter Try.func9, Try.ntmps9
  go_wp2
  refine bodyPost_ret (by simp [results, Try.results9, go_sem]; rfl) rfl ?_
  exact ⟨_, _, rfl, H.out, by omega, Nat.le_refl _, ((Below.refl _ _).alloc (Nat.le_refl _) _).alloc (by simp) _⟩
theorem new_not (w : World) (c : Int) (h : c < 1 ∨ 1024 < c) : Calls Try.prog 9 #[.int .i64 c] w fun e w' => e = .returned (.tuple #[.pointer none, .int .i64 1]) ∧ w = w' := by
  go_enter Try.func9, Try.ntmps9
  go_wp2
  all_goals refine bodyPost_ret (by simp [results, Try.results9, go_sem]; rfl) rfl ?_
  all_goals exact ⟨rfl, rfl⟩
end Go.Proofs.Ytefjpljjdjecjaa
