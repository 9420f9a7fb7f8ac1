/- What is told of a space, by the program and by the document. -/
import Derived.Test.YtbkbfkaklhojgaaWt
namespace Go.Proofs.Ytbkbfkaklhojgaa
open Go.RowKit Go.Shelf
set_option maxHeartbeats 1000000 in
theorem like_any (w : World) (b N q g last r : Nat) (f : Nat → Nat) (h : Bo w b N q g last r f) (z : Int) :
    Calls Try.prog 20 #[.pointer (some ⟨b, 0, none⟩), .pointer (some ⟨q, 0, none⟩), .int .i64 z] w fun e w' => e = .returned (.bool true) ∧ Below w.heap.size w w' := by
  have HB := Lib.hid h
  have HC0 := Lib.hid (count_any w q g N r f h.xi h.f4 h.n1 0 (by omega) 0 rfl)
  have HC3 := Lib.hid (count_any w q g N r f h.xi h.f4 h.n1 3 (by omega) 2 rfl)
  have HF := Lib.hid (free_any w b N last f h.si)
  have HW := Lib.hid (waits_any w b N last f h.si)
  have HT := Lib.hid (taken_any w b N last f h.si h.n1 z)
  clear h
  generalize cnt N f 0 = C0 at *
  generalize cnt N f 3 = C3 at *
  go_enter Try.func20, Try.ntmps20
  go_wp2_with fail
  refine HF.out.mono ?_
  rintro e w' ⟨rfl, hw⟩
  rw [hw]
  clear hw w'
  go_wp2_with fail
  refine HC0.out.mono ?_
  rintro e w' ⟨rfl, hw⟩
  rw [hw]
  clear hw w'
  go_wp2_with fail
  refine HW.out.mono ?_
  rintro e w' ⟨rfl, hw⟩
  rw [hw]
  clear hw w'
  go_wp2_with fail
  refine HC3.out.mono ?_
  rintro e w' ⟨rfl, hw⟩
  rw [hw]
  clear hw w'
  go_wp2_with fail
  refine HT.out.mono ?_
  rintro e w1 ⟨rfl, hb⟩
  have HI := Lib.hid (is_any w1 q g N r f (HB.out.next hb).xi HB.out.f4 z)
  have HBL := Lib.hid hb
  clear hb HT HB
  generalize tkB N f z = tb at *
  go_wp2_with fail
  refine HI.out.mono ?_
  rintro e w' ⟨rfl, hw⟩
  rw [hw]
  clear hw w'
  have hn : (tb == tb) = true := by simp
  cases tb
  all_goals go_wp2_with fail
  all_goals refine bodyPost_ret (by simp [results, Try.results20, go_sem]; rfl) rfl ?_
  all_goals exact ⟨rfl, HBL.out⟩
end Go.Proofs.Ytbkbfkaklhojgaa
