/- New. -/
import Derived.Test.YtbkbfkaklhojgaaWg
import Derived.Deep.MidRow
import Derived.Deep.WholeRow
namespace Go.Proofs.Ytbkbfkaklhojgaa
open Go.RowKit Go.Shelf
def goZ : Nat → List Value → Bool
  | 0, [.int .i64 (.ofNat 0), .int .i64 (.ofNat 0), .int .i64 (.ofNat 0), .int .i64 (.ofNat 0)] => true
  | k + 1, .int .u8 (.ofNat 0) :: r => goZ k r
  | _, _ => false
def chkZ : List Value → Bool
  | _ :: .int .i64 (.ofNat 0) :: r => goZ 8192 r
  | _ => false
theorem zero_chk : ((Try.prog.info? 52).bind (fun i => i.zero)).map (fun z => match z with | .agg C => chkZ C.toList | _ => false) = some true := by kernel_rfl
theorem zero_head : ((Try.prog.info? 52).bind (fun i => i.zero)).map (fun z => z.cells.toList.head?) = some (some (.int .i64 0)) := by kernel_rfl
theorem goZ_at : ∀ (k : Nat) (l : List Value), goZ k l = true → l = List.replicate k (.int .u8 (0 : Nat)) ++ List.replicate 4 (.int .i64 0)
  | 0, l, h => by
    unfold goZ at h
    split at h
    · rfl
    · rename_i heq; cases heq
    · cases h
  | k + 1, l, h => by
    unfold goZ at h
    split at h
    · omega
    · rename_i heq
      cases heq
      rw [goZ_at k _ h]
      rfl
    · cases h
theorem rep_facts (M : Nat) (x y : Value) : (List.replicate M x ++ List.replicate 4 y).length = M + 4 ∧ (∀ i, i < M → (List.replicate M x ++ List.replicate 4 y)[i]? = some x) ∧ ∀ j, j < 4 → (List.replicate M x ++ List.replicate 4 y)[M + j]? = some y := by
  refine ⟨by simp, fun i hi => ?_, fun j hj => ?_⟩
  · rw [List.getElem?_append_left (by simpa using hi), List.getElem?_replicate, if_pos hi]
  · rw [List.getElem?_append_right (by simp), List.getElem?_replicate]
    simp only [List.length_replicate, Nat.add_sub_cancel_left]
    rw [if_pos hj]
theorem sl_of_chk (n : Int) (l : List Value) (h : chkZ l = true) (hh : l.head? = some (.int .i64 n)) : SL l n 0 (fun _ => 0) (fun _ => 0) := by
  unfold chkZ at h
  split at h
  · rename_i v r
    have hr := goZ_at 8192 r h
    obtain ⟨f1, f2, f3⟩ := rep_facts 8192 (.int .u8 (0 : Nat)) (.int .i64 0)
    rw [← hr] at f1 f2 f3
    simp only [List.head?_cons, Option.some.injEq] at hh
    subst hh
    refine ⟨by rw [List.length_cons, List.length_cons, f1], rfl, rfl, fun i hi => ?_, fun j hj => ?_⟩
    · rw [show 2 + i = i + 1 + 1 from by omega, List.getElem?_cons_succ, List.getElem?_cons_succ]; exact f2 i hi
    · rw [show 8194 + j = 8192 + j + 1 + 1 from by omega, List.getElem?_cons_succ, List.getElem?_cons_succ]; exact f3 j hj
  · cases h
theorem zero_sl : ∃ C, (∀ w, (zeroValue 52).run Try.prog w = .ok (.agg C) w) ∧ SL C.toList 0 0 (fun _ => 0) (fun _ => 0) := by
  have h1 := zero_chk
  have h2 := zero_head
  cases h : Try.prog.info? 52 with
  | none => rw [h] at h1; cases h1
  | some i =>
    rw [h] at h1 h2
    simp only [Option.bind_some] at h1 h2
    cases hz : i.zero with
    | none => rw [hz] at h1; cases h1
    | some z =>
      rw [hz] at h1 h2
      simp only [Option.map_some, Option.some.injEq] at h1 h2
      split at h1
      · rename_i C
        exact ⟨C, fun w => by simp [zeroValue, typeInfo, h, hz], sl_of_chk 0 _ h1 h2⟩
      · cases h1
@[irreducible] noncomputable def zC : Array Value := zero_sl.choose
theorem zC_run (w : World) : (zeroValue 52).run Try.prog w = .ok (.agg zC) w := by unfold zC; exact zero_sl.choose_spec.1 w
theorem zC_sl : SL zC.toList 0 0 (fun _ => 0) (fun _ => 0) := by unfold zC; exact zero_sl.choose_spec.2
theorem zC_ne : (zC = #[]) = False := by
  refine eq_false (fun h => ?_)
  have := zC_sl.len
  rw [h] at this
  cases this
theorem spC_sl (n : Int) : SL (zC.setIfInBounds 0 (.int .i64 n)).toList n 0 (fun _ => 0) (fun _ => 0) := by
  have h := zC_sl
  rw [Array.toList_setIfInBounds]
  refine ⟨by simp [h.len], ?_, ?_, fun j hj => ?_, fun j hj => ?_⟩
  · rw [List.getElem?_set_self (by rw [h.len]; omega)]
  · rw [List.getElem?_set_ne (by omega)]; exact h.l
  · rw [List.getElem?_set_ne (by omega)]; exact h.is j hj
  · rw [List.getElem?_set_ne (by omega)]; exact h.ct j hj
attribute [local go_sem] zC_run zC_ne
theorem cn_new (N : Nat) : Cn N (fun _ => 0) (upd (fun _ => 0) 0 N) := by
  refine ⟨fun j hj => ?_, fun i => by show 0 < 4; omega⟩
  have : ∀ M : Nat, cnt M (fun _ => 0) j = if j = 0 then (M : Int) else 0 := by
    intro M
    induction M with
    | zero => simp [cnt]
    | succ M ih =>
      simp only [cnt, ih]
      by_cases e : j = 0
      · subst e; simp
      · have : ¬ 0 = j := fun h => e h.symm
        simp [e, this]
  rw [this N]
  rfl
/-- The first two are taken. -/
def newF : Nat → Nat := upd (upd (fun _ => 0) 0 1) 1 1
set_option maxRecDepth 65000 in
set_option maxHeartbeats 4000000 in
theorem new_any (w : World) (N : Nat) (h0 : 64 ≤ N) (h1 : N ≤ 8192) :
    Calls Try.prog 7 #[.int .i64 N] w fun e w' => e = .returned (.tuple #[.pointer (some ⟨w.heap.size, 0, none⟩), .int .i64 0]) ∧ SI w' w.heap.size N 0 newF ∧ Below w.heap.size w w' := by
  have g1 : decide ((N : Int) < 64) = false := by simp; omega
  have g2 : decide ((N : Int) > 8192) = false := by simp; omega
  have g3 : decide ((8192 : Int) < N) = false := by simp; omega
  have hr : RowAt (w.alloc (.cells (zC.setIfInBounds 0 (.int .i64 N)) 52)) w.heap.size 52 (zC.setIfInBounds 0 (.int .i64 N)).toList := by
    have := RowAt.new w 52 (zC.setIfInBounds 0 (.int .i64 N)).toList
    rwa [Array.toArray_toList] at this
  have hs := spC_sl N
  have c1 := (hr.cell (8194 + 0)).trans (hs.ct 0 (by omega))
  have f1 := hr.free (8194 + 0)
  have HB : Hid (Below w.heap.size w (w.alloc (.cells ((zC.setIfInBounds 0 (.int .i64 N)).setIfInBounds 8194 (.int .i64 N)) 52))) := Lib.hid ((Below.refl _ _).alloc (Nat.le_refl _) _)
  have HS : Hid (SI (w.alloc (.cells ((zC.setIfInBounds 0 (.int .i64 N)).setIfInBounds 8194 (.int .i64 N)) 52)) w.heap.size N 0 (fun _ => 0)) := Lib.hid (by
    have h1 := RowAt.new w 52 ((zC.setIfInBounds 0 (.int .i64 N)).setIfInBounds 8194 (.int .i64 N)).toList
    rw [Array.toArray_toList] at h1
    have h2 := hs.setCt 0 N (by omega)
    rw [Array.toList_setIfInBounds] at h1
    exact ⟨_, ⟨_, h1, h2⟩, cn_new N⟩)
  have HL : Hid (w.heap.size < (w.alloc (.cells ((zC.setIfInBounds 0 (.int .i64 N)).setIfInBounds 8194 (.int .i64 N)) 52)).heap.size) := Lib.hid (by simp)
  clear hr hs
  go_enter Try.func7, Try.ntmps7
  go_wp2_with fail
  generalize w.alloc (.cells ((zC.setIfInBounds 0 (.int .i64 N)).setIfInBounds 8194 (.int .i64 N)) 52) = w1 at *
  clear c1 f1
  refine wp_loop_rounds 3 ?_
  rw [rounds_succ]
  go_wp2_with fail
  refine (put_si w1 w.heap.size N 0 _ HS.out (by omega) 0 1 (by omega) (by omega)).mono ?_
  rintro e w2 ⟨rfl, hs2, hf2⟩
  have HS2 := Lib.hid hs2
  have HF2 := Lib.hid hf2
  clear hs2 hf2
  go_wp2_with fail
  rw [rounds_succ]
  go_wp2_with fail
  refine (put_si w2 w.heap.size N 0 _ HS2.out (by omega) 1 1 (by omega) (by omega)).mono ?_
  rintro e w3 ⟨rfl, hs3, hf3⟩
  have HS3 := Lib.hid hs3
  have HF3 := Lib.hid hf3
  clear hs3 hf3
  go_wp2_with fail
  rw [rounds_succ]
  go_wp2_with fail
  all_goals refine bodyPost_ret (by simp [results, Try.results7, go_sem]; rfl) rfl ?_
  all_goals exact ⟨rfl, HS3.out, HB.out.trans ((HF2.out.trans HF3.out).below (Nat.le_of_lt HL.out) (fun k e => Nat.le_of_eq e.symm))⟩
theorem new_not (w : World) (n : Int) (h0 : n < 64 ∨ 8192 < n) :
    Calls Try.prog 7 #[.int .i64 n] w fun e w' => e = .returned (.tuple #[.pointer none, .int .i64 1]) ∧ w' = w := by
  by_cases h1 : n < 64
  · have g1 : decide (n < 64) = true := by simpa using h1
    go_enter Try.func7, Try.ntmps7
    go_wp2
    all_goals refine bodyPost_ret (by simp [results, Try.results7, go_sem]; rfl) rfl ?_
    all_goals exact ⟨rfl, rfl⟩
  · have g1 : decide (n < 64) = false := by simpa using h1
    have g2 : decide (n > 8192) = true := by simp; omega
    have g3 : decide ((8192 : Int) < n) = true := by simp; omega
    go_enter Try.func7, Try.ntmps7
    go_wp2
    all_goals refine bodyPost_ret (by simp [results, Try.results7, go_sem]; rfl) rfl ?_
    all_goals exact ⟨rfl, rfl⟩
end Go.Proofs.Ytbkbfkaklhojgaa
