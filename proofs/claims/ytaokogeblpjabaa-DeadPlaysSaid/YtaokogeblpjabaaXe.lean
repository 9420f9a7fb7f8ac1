/- A number put into a rising row: what the three appends come to. -/
import Derived.Test.YtaokogeblpjabaaWk
namespace Go.Proofs.Ytaokogeblpjabaa
open Go.RowKit
theorem ht26 : Try.prog.underlying 26 = some (.slice (Try.prog.elem 26)) := Try.underlying26
theorem sz26 (w : World) : (sizeOf (Try.prog.elem 26)).run Try.prog w = .ok 1 w := by rfl
theorem slice_to (A : Option Addr) (n cap m : Nat) (hm : m ≤ cap) (w : World) : (Instr.slice 26 (.slice A n cap) none (some (.int .i64 m)) none).run Try.prog w = .ok (sliced A 0 m cap 1) w := by
  rw [run_slice_h (P := Try.prog) w 26 A n cap ht26 .i64 m (by omega) (by omega), sz26]
  simp
theorem slice_from (A : Option Addr) (n cap m : Nat) (hm : m ≤ n) (w : World) : (Instr.slice 26 (.slice A n cap) (some (.int .i64 m)) none none).run Try.prog w = .ok (sliced A m n cap 1) w := by
  rw [run_slice_l (P := Try.prog) w 26 A n cap ht26 .i64 m (by omega) (by omega), sz26]
  simp
theorem sliced_to {W : World} {B cap : Nat} {O : List Int} {A : Option Addr} (h : OwnI B O (.slice A O.length cap) W) (m : Nat) (hm : m ≤ O.length) : ∃ A1, sliced A 0 m cap 1 = .slice A1 m cap ∧ SliceAt W A1 m ((O.take m).map I64) ∧ (A1 = none → m = 0) ∧ m ≤ cap := by
  rcases h.2 with ⟨e, h0⟩ | ⟨g, c, cur, e, hg, hb, h1, h2, h3, h4⟩
  · have hO : O = [] := List.eq_nil_of_length_eq_zero h0
    subst hO
    obtain rfl : m = 0 := by simpa using hm
    simp only [List.length_nil, Value.slice.injEq] at e
    obtain ⟨rfl, _, rfl⟩ := e
    exact ⟨none, by simp [sliced], SliceAt.nil _ _, (fun _ => rfl), by omega⟩
  · cases e
    refine ⟨some ⟨g, 0, none⟩, ?_, ?_, (fun h => by cases h), by omega⟩
    · unfold sliced
      simp [Addr.add]
    · refine ⟨by simp; omega, ?_⟩
      by_cases m0 : m = 0
      · exact .inl m0
      · refine .inr ⟨g, 0, rfl, (Array.getElem?_eq_some_iff.1 hb).1, fun i hi => ?_⟩
        have hc := (show W.ownsRow B 3 1 (.slice (some ⟨g, 0, none⟩) _ _) _ _ from h).cellAt i (by omega)
        rw [Nat.zero_add, hc, List.getElem?_map, List.getElem?_map, List.getElem?_take, if_pos hi]
theorem sliced_from {W : World} {B cap : Nat} {O : List Int} {A : Option Addr} (h : OwnI B O (.slice A O.length cap) W) (m : Nat) (hm : m ≤ O.length) : ∃ A2 c2, sliced A m O.length cap 1 = .slice A2 (O.length - m) c2 ∧ SliceAt W A2 (O.length - m) ((O.drop m).map I64) ∧ (A2 = none → O.length - m = 0) := by
  rcases h.2 with ⟨e, h0⟩ | ⟨g, c, cur, e, hg, hb, h1, h2, h3, h4⟩
  · have hO : O = [] := List.eq_nil_of_length_eq_zero h0
    subst hO
    obtain rfl : m = 0 := by simpa using hm
    simp only [List.length_nil, Value.slice.injEq] at e
    obtain ⟨rfl, _, rfl⟩ := e
    exact ⟨none, 0, by simp [sliced], SliceAt.nil _ _, fun _ => rfl⟩
  · cases e
    by_cases hc : cap = m
    · have h0 : O.length - m = 0 := by omega
      refine ⟨some ⟨g, 0, none⟩, cap - m, by unfold sliced; rw [if_pos hc], ?_, fun h => by cases h⟩
      rw [h0]
      have : O.drop m = [] := List.drop_eq_nil_of_le (by omega)
      rw [this]
      exact SliceAt.nil _ _
    · refine ⟨some ⟨g, m, none⟩, cap - m, ?_, ?_, fun h => by cases h⟩
      · unfold sliced
        rw [if_neg hc]
        simp [Addr.add]
        omega
      · refine ⟨by simp, ?_⟩
        by_cases m0 : O.length - m = 0
        · exact .inl m0
        · refine .inr ⟨g, m, rfl, (Array.getElem?_eq_some_iff.1 hb).1, fun i hi => ?_⟩
          have hc := (show W.ownsRow B 3 1 (.slice (some ⟨g, 0, none⟩) _ _) _ _ from h).cellAt (m + i) (by omega)
          rw [hc, List.getElem?_map, List.getElem?_map, List.getElem?_drop]
theorem ins_run (W : World) (B cap : Nat) (O : List Int) (A : Option Addr) (h : OwnI B O (.slice A O.length cap) W) (m : Nat) (hm : m ≤ O.length) (x : Int) (hl : O.length ≤ 60000) :
    ∃ A1 A2 c2 v1 W2 v2 W3 v3 W4, (∀ w, (Instr.slice 26 (.slice A O.length cap) none (some (.int .i64 m)) none).run Try.prog w = .ok (.slice A1 m cap) w) ∧ (∀ w, (Instr.slice 26 (.slice A O.length cap) (some (.int .i64 m)) none none).run Try.prog w = .ok (.slice A2 (O.length - m) c2) w) ∧
      (Builtin.append_ #[26, 26] 26 #[.slice (some ⟨W.heap.size, 0, none⟩) 0 0, .slice A1 m cap]).run Try.prog (W.alloc (.cells #[] 3)) = .ok v1 W2 ∧
      (Builtin.append_ #[26, 26] 26 #[v1, .slice (some ⟨W2.heap.size, 0, none⟩) 1 1]).run Try.prog (W2.alloc (.cells #[.int .i64 x] 3)) = .ok v2 W3 ∧
      (Builtin.append_ #[26, 26] 26 #[v2, .slice A2 (O.length - m) c2]).run Try.prog W3 = .ok v3 W4 ∧ OwnI W.heap.size (O.take m ++ [x] ++ O.drop m) v3 W4 ∧ Below W.heap.size W W2 ∧ Below W.heap.size W W4 := by
  obtain ⟨A1, e1, s1, n1, hmc⟩ := sliced_to h m hm
  obtain ⟨A2, c2, e2, s2, n2⟩ := sliced_from h m hm
  obtain ⟨i, z, q1, q2, q3, q4, q5⟩ := info3
  have hal : Below W.heap.size W (W.alloc (.cells #[] 3)) := (Below.refl _ _).alloc (Nat.le_refl _) _
  have hnew : (W.alloc (.cells #[] 3)).ownsRow W.heap.size 3 1 (.slice (some ⟨W.heap.size, 0, none⟩) 0 0) 0 ([] : List Value) :=
    ⟨rfl, .inr ⟨W.heap.size, 0, #[], rfl, Nat.le_refl _, by show (W.heap.push _)[W.heap.size]? = _; simp, by simp, by simp [maxLen], rfl, rfl⟩⟩
  have tl : (O.take m).length = m := by rw [List.length_take]; omega
  have dl : (O.drop m).length = O.length - m := List.length_drop
  obtain ⟨v1, W2, r1, o1, _, _, b1⟩ := run_app (P := Try.prog) (W.alloc (.cells #[] 3)) W.heap.size 26 26 3 i z 8 Try.underlying26 q1 q2 q3 q4 q5 _ 0 [] hnew A1 m cap ((O.take m).map I64) (s1.next hal) n1 (fun u hu => by obtain ⟨y, _, rfl⟩ := List.mem_map.1 hu; rfl) (by unfold maxLen; omega) (by omega) (by simp)
  have hb2 : Below W.heap.size W W2 := hal.trans b1
  have hal2 : Below W2.heap.size W2 (W2.alloc (.cells #[.int .i64 x] 3)) := (Below.refl _ _).alloc (Nat.le_refl _) _
  have hx : RowAt (W2.alloc (.cells #[.int .i64 x] 3)) W2.heap.size 3 [.int .i64 x] := RowAt.new W2 3 _
  obtain ⟨v2, W3, r2, o2, _, _, b2⟩ := run_app (P := Try.prog) (W2.alloc (.cells #[.int .i64 x] 3)) W.heap.size 26 26 3 i z 8 Try.underlying26 q1 q2 q3 q4 q5 v1 (0 + m) _ (o1.alloc _) (some ⟨W2.heap.size, 0, none⟩) 1 1 [.int .i64 x] (SliceAt.row hx) (fun h => by cases h) (fun u hu => by simp at hu; subst hu; rfl) (by unfold maxLen; omega) (by omega) (by have := hb2.size; simp; omega)
  have hb3 : Below W.heap.size W W3 := (bt hb2 hal2).trans b2
  obtain ⟨v3, W4, r3, o3, _, _, b3⟩ := run_app (P := Try.prog) W3 W.heap.size 26 26 3 i z 8 Try.underlying26 q1 q2 q3 q4 q5 v2 (0 + m + 1) _ o2 A2 (O.length - m) c2 ((O.drop m).map I64) (s2.next hb3) n2 (fun u hu => by obtain ⟨y, _, rfl⟩ := List.mem_map.1 hu; rfl) (by unfold maxLen; omega) (by omega) hb3.size
  refine ⟨A1, A2, c2, v1, W2, v2, W3, v3, W4, fun w => by rw [slice_to A O.length cap m hmc w, e1], fun w => by rw [slice_from A O.length cap m hm w, e2], r1, r2, r3, ?_, hb2, hb3.trans b3⟩
  unfold OwnI
  have e : (O.take m ++ [x] ++ O.drop m).length = 0 + m + 1 + (O.length - m) := by simp only [List.length_append, tl, dl, List.length_singleton]; omega
  rw [e, List.map_append, List.map_append]
  simpa [I64] using o3
end Go.Proofs.Ytaokogeblpjabaa
