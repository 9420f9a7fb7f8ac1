/- Taken. -/
import Derived.Test.YtbkbfkaklhojgaaWf
namespace Go.Proofs.Ytbkbfkaklhojgaa
open Go.RowKit Go.Shelf
set_option maxRecDepth 65000 in
set_option maxHeartbeats 4000000 in
theorem taken_any (w : World) (b N : Nat) (last : Int) (f : Nat → Nat) (h : SI w b N last f) (hN : N ≤ 8192) (n : Int) :
    Calls Try.prog 13 #[.pointer (some ⟨b, 0, none⟩), .int .i64 n] w fun e w' => e = .returned (.bool (tkB N f n)) ∧ Below w.heap.size w w' := by
  obtain ⟨c, ⟨L, hr, hs⟩, hcn⟩ := h
  have c0 := (hr.cell 0).trans hs.n
  by_cases h1 : 0 ≤ n
  · by_cases h2 : n < (N : Int)
    · obtain ⟨m, rfl⟩ : ∃ m : Nat, n = m := ⟨n.toNat, by omega⟩
      have hm : m < N := by omega
      have c1 := (hr.cell (2 + m)).trans (hs.is m (by omega))
      have k1 : (m : Int) < 8192 := by omega
      have g1 : decide ((0 : Int) ≤ (m : Int)) = true := by simp
      have g2 : decide ((m : Int) < (N : Int)) = true := by simpa using h2
      clear hr hs hcn
      by_cases h3 : f m = 1
      · rw [h3] at c1
        have e1 : tkB N f (m : Int) = true := by unfold tkB; exact decide_eq_true ⟨h1, h2, .inl (by simpa using h3)⟩
        rw [e1]
        clear e1
        go_enter Try.func13, Try.ntmps13
        go_wp2_with fail
        all_goals refine bodyPost_ret (by simp [results, Try.results13, go_sem]; rfl) rfl ?_
        all_goals exact ⟨rfl, Below.refl _ _⟩
      · obtain ⟨x, hx⟩ : ∃ x, x = f m := ⟨_, rfl⟩
        by_cases h4 : f m = 2
        · rw [h4] at c1
          have e1 : tkB N f (m : Int) = true := by unfold tkB; exact decide_eq_true ⟨h1, h2, .inr (by simpa using h4)⟩
          rw [e1]
          clear e1 hx h3
          go_enter Try.func13, Try.ntmps13
          go_wp2_with fail
          all_goals refine bodyPost_ret (by simp [results, Try.results13, go_sem]; rfl) rfl ?_
          all_goals exact ⟨rfl, Below.refl _ _⟩
        · have e1 : tkB N f (m : Int) = false := by unfold tkB; exact decide_eq_false (fun h => by have := h.2.2; simp at this; omega)
          rw [e1]
          rw [← hx] at c1 h3 h4
          have hxb : ((x : Int) == 2) = false := by simp; omega
          have hxc : ((x : Int) == 1) = false := by simp; omega
          clear e1 hx
          go_enter Try.func13, Try.ntmps13
          go_wp2_with fail
          all_goals refine bodyPost_ret (by simp [results, Try.results13, go_sem]; rfl) rfl ?_
          all_goals exact ⟨rfl, Below.refl _ _⟩
    · have g1 : decide ((0 : Int) ≤ n) = true := by simpa using h1
      have g2 : decide (n < (N : Int)) = false := by simpa using h2
      have e1 : tkB N f n = false := by unfold tkB; exact decide_eq_false (fun h => h2 h.2.1)
      rw [e1]
      clear hr hs hcn e1
      go_enter Try.func13, Try.ntmps13
      go_wp2_with fail
      all_goals refine bodyPost_ret (by simp [results, Try.results13, go_sem]; rfl) rfl ?_
      all_goals exact ⟨rfl, Below.refl _ _⟩
  · have g1 : decide ((0 : Int) ≤ n) = false := by simpa using h1
    have e1 : tkB N f n = false := by unfold tkB; exact decide_eq_false (fun h => h1 h.1)
    rw [e1]
    clear hr hs hcn e1
    go_enter Try.func13, Try.ntmps13
    go_wp2_with fail
    all_goals refine bodyPost_ret (by simp [results, Try.results13, go_sem]; rfl) rfl ?_
    all_goals exact ⟨rfl, Below.refl _ _⟩
end Go.Proofs.Ytbkbfkaklhojgaa
