/- detach and attach. -/
import Derived.Test.YtefjpljjdjecjaaWa
namespace Go.Proofs.Ytefjpljjdjecjaa
open Go.RowKit
def DM (cb xb : Nat) (p n : Option Nat) (k : Nat) : Prop := k = cb ∨ k = xb ∨ p = some k ∨ n = some k
def DPost (cb xb : Nat) (key d : Value) (r : Nat) (p n : Option Nat) (C : List Value) (z : Int) (w : World) (e : Ending) (w' : World) : Prop :=
  e = .returned (.tuple #[]) ∧ Fr (DM cb xb p n) w w' ∧ RowAt w' xb 73 [key, .int .i64 r, d, ptr none, ptr none] ∧ RowAt w' cb 69 (C.set (r * 3 + 2) (.int .i64 (z - 1)))
set_option maxHeartbeats 4000000 in
theorem detach_nn (w : World) (cb xb : Nat) (key d : Value) (r : Nat) (hr : r < 4) (C : List Value) (z : Int) (hz0 : 0 < z) (hz1 : z ≤ 100000)
    (hC : RowAt w cb 69 C) (hCz : C[r * 3 + 2]? = some (.int .i64 z)) (v0 v1 : Value) (hC0 : C[r * 3]? = some v0) (hC1 : C[r * 3 + 1]? = some v1)
    (hX : RowAt w xb 73 [key, .int .i64 r, d, ptr none, ptr none]) (hxc : xb ≠ cb) :
    Calls Try.prog 32 #[.pointer (some ⟨cb, 0, none⟩), .pointer (some ⟨xb, 0, none⟩)] w fun e w' => DPost cb xb key d r none none ((C.set (r * 3) (ptr none)).set (r * 3 + 1) (ptr none)) z w e w' := by
  have HC := Lib.hid hCz
  have HC0 := Lib.hid hC0
  have HC1 := Lib.hid hC1
  clear hCz hC0 hC1
  have hcx : cb ≠ xb := Ne.symm hxc
  simp only [ptr] at hX ⊢
  go_enter Try.func32, Try.ntmps32
  go_wp2_with fail
  have hf : Fr (DM cb xb none none) w w.drew := (Fr.refl _ _).drew
  replace hC := hC.drew
  replace hX := hX.drew
  refine wp_region_parts (by kernel_rfl) (by kernel_rfl) ?_
  generalize hWe : World.drew _ = V0 at *
  clear hWe
  apply regL_lq V0.heap.size
  intro D hD hn
  have x1 := fun x : Bd V0.heap.size V0 D => (hX.next x.ok).cell 1
  simp at x1
  have r0 : (0 : Int) ≤ (r : Int) := by omega
  have r1 : (r : Int) < 4 := by omega
  repeat (apply wpLQ_pin rfl rfl; intro K hK; go_big_quiet_op; go_big_quiet_on; apply And.intro rfl)
  apply wpLQ_nil (by simp)
  intro W1 hb _
  clear hn hD
  replace hC := hC.next hb
  replace hX := hX.next hb
  replace hf := hf.trans (Fr.of_below hb)
  clear hb
  clear x1
  have c0 := (hC.cell (r * 3)).trans HC0.out
  have c1 := (hC.cell (r * 3 + 1)).trans HC1.out
  have c2 := (hC.cell (r * 3 + 2)).trans HC.out
  have f0 := hC.free (r * 3)
  have f1 := hC.free (r * 3 + 1)
  have f2 := hC.free (r * 3 + 2)
  have x3 := hX.cell 3
  have x4 := hX.cell 4
  have g3 := hX.free 3
  have g4 := hX.free 4
  simp at x3 x4
  go_wp2_with fail
  go_end0
  refine ⟨rfl, ((((hf.setCell (b := cb) (i := r * 3) (.inl rfl) (.pointer none)).setCell (b := cb) (i := r * 3 + 1) (.inl rfl) (.pointer none)).setCell (b := xb) (i := 3) (.inr (.inl rfl)) (.pointer none)).setCell (b := xb) (i := 4) (.inr (.inl rfl)) (.pointer none)).setCell (b := cb) (i := r * 3 + 2) (.inl rfl) (.int .i64 (z - 1)), ((((hX.other (r * 3) (.pointer none) hxc).other (r * 3 + 1) (.pointer none) hxc).set 3 (.pointer none)).set 4 (.pointer none)).other (r * 3 + 2) (.int .i64 (z - 1)) hxc, ((((hC.set (r * 3) (.pointer none)).set (r * 3 + 1) (.pointer none)).other 3 (.pointer none) hcx).other 4 (.pointer none) hcx).set (r * 3 + 2) (.int .i64 (z - 1))⟩
set_option maxHeartbeats 4000000 in
theorem detach_ns (w : World) (cb xb : Nat) (key d : Value) (r : Nat) (hr : r < 4) (C : List Value) (z : Int) (hz0 : 0 < z) (hz1 : z ≤ 100000)
    (hC : RowAt w cb 69 C) (hCz : C[r * 3 + 2]? = some (.int .i64 z)) (v0 v1 : Value) (hC0 : C[r * 3]? = some v0) (hC1 : C[r * 3 + 1]? = some v1) (s : Nat) (s0 s1 s2 s3 s4 : Value) (hS : RowAt w s 73 [s0, s1, s2, s3, s4]) (hsx : s ≠ xb) (hsc : s ≠ cb)
    (hX : RowAt w xb 73 [key, .int .i64 r, d, ptr none, ptr (some s)]) (hxc : xb ≠ cb) :
    Calls Try.prog 32 #[.pointer (some ⟨cb, 0, none⟩), .pointer (some ⟨xb, 0, none⟩)] w fun e w' => DPost cb xb key d r none (some s) (C.set (r * 3) (ptr (some s))) z w e w' ∧ RowAt w' s 73 [s0, s1, s2, ptr none, s4] := by
  have HC := Lib.hid hCz
  have HC0 := Lib.hid hC0
  have HC1 := Lib.hid hC1
  clear hCz hC0 hC1
  have hcx : cb ≠ xb := Ne.symm hxc
  have hxs : xb ≠ s := Ne.symm hsx
  have hcs : cb ≠ s := Ne.symm hsc
  simp only [ptr] at hX ⊢
  go_enter Try.func32, Try.ntmps32
  go_wp2_with fail
  have hf : Fr (DM cb xb none (some s)) w w.drew := (Fr.refl _ _).drew
  replace hC := hC.drew
  replace hX := hX.drew
  replace hS := hS.drew
  refine wp_region_parts (by kernel_rfl) (by kernel_rfl) ?_
  generalize hWe : World.drew _ = V0 at *
  clear hWe
  apply regL_lq V0.heap.size
  intro D hD hn
  have x1 := fun x : Bd V0.heap.size V0 D => (hX.next x.ok).cell 1
  simp at x1
  have r0 : (0 : Int) ≤ (r : Int) := by omega
  have r1 : (r : Int) < 4 := by omega
  repeat (apply wpLQ_pin rfl rfl; intro K hK; go_big_quiet_op; go_big_quiet_on; apply And.intro rfl)
  apply wpLQ_nil (by simp)
  intro W1 hb _
  clear hn hD
  replace hC := hC.next hb
  replace hX := hX.next hb
  replace hS := hS.next hb
  replace hf := hf.trans (Fr.of_below hb)
  clear hb
  clear x1
  have c0 := (hC.cell (r * 3)).trans HC0.out
  have c1 := (hC.cell (r * 3 + 1)).trans HC1.out
  have c2 := (hC.cell (r * 3 + 2)).trans HC.out
  have f0 := hC.free (r * 3)
  have f1 := hC.free (r * 3 + 1)
  have f2 := hC.free (r * 3 + 2)
  have x3 := hX.cell 3
  have x4 := hX.cell 4
  have g3 := hX.free 3
  have g4 := hX.free 4
  simp at x3 x4
  go_wp2_with fail
  clear c0 c1 c2 f0 f1 f2 x3 x4 g3 g4
  replace hC := hC.set (r * 3) (.pointer (some ⟨s, 0, none⟩))
  replace hX := hX.other (r * 3) (.pointer (some ⟨s, 0, none⟩)) hxc
  replace hS := hS.other (r * 3) (.pointer (some ⟨s, 0, none⟩)) hsc
  replace hf := hf.setCell (b := cb) (i := r * 3) (.inl rfl) (.pointer (some ⟨s, 0, none⟩))
  replace hf := hf.drew
  replace hC := hC.drew
  replace hX := hX.drew
  replace hS := hS.drew
  refine wp_region_parts (by kernel_rfl) (by kernel_rfl) ?_
  generalize hWe : World.drew _ = V4 at *
  clear hWe
  apply regL_lq V4.heap.size
  intro D hD hn
  have y3 := fun x : Bd V4.heap.size V4 D => (hX.next x.ok).cell 3
  have y4 := fun x : Bd V4.heap.size V4 D => (hX.next x.ok).cell 4
  simp at y3 y4
  repeat (apply wpLQ_pin rfl rfl; intro K hK; go_big_quiet_op; go_big_quiet_on; apply And.intro rfl)
  apply wpLQ_end (bar_of (by kernel_rfl))
  intro W5 hb _
  clear hn hD
  replace hC := hC.next hb
  replace hX := hX.next hb
  replace hS := hS.next hb
  replace hf := hf.trans (Fr.of_below hb)
  clear hb
  clear y3 y4
  have k3 := hS.cell 3
  have l3 := hS.free 3
  simp at k3
  apply regL_one (bar_of (by kernel_rfl)) rfl
  unfold Oper.wp
  go_simp
  apply regL_nil
  clear k3 l3
  replace hS := hS.set 3 (.pointer none)
  replace hC := hC.other 3 (.pointer none) hcs
  replace hX := hX.other 3 (.pointer none) hxs
  replace hf := hf.setCell (b := s) (i := 3) (.inr (.inr (.inr rfl))) (.pointer none)
  simp only [List.set_cons_succ, List.set_cons_zero] at hS
  generalize hWe : World.setCell W5 _ _ = W6 at *
  clear hWe
  have c2 := (hC.cell (r * 3 + 2)).trans ((List.getElem?_set_ne (by omega)).trans HC.out)
  have f2 := hC.free (r * 3 + 2)
  have x3 := hX.cell 3
  have x4 := hX.cell 4
  have g3 := hX.free 3
  have g4 := hX.free 4
  simp at x3 x4
  go_wp2_with fail
  go_end0
  refine ⟨⟨rfl, ((hf.setCell (b := xb) (i := 3) (.inr (.inl rfl)) (.pointer none)).setCell (b := xb) (i := 4) (.inr (.inl rfl)) (.pointer none)).setCell (b := cb) (i := r * 3 + 2) (.inl rfl) (.int .i64 (z - 1)), ((hX.set 3 (.pointer none)).set 4 (.pointer none)).other (r * 3 + 2) (.int .i64 (z - 1)) hxc, ((hC.other 3 (.pointer none) hcx).other 4 (.pointer none) hcx).set (r * 3 + 2) (.int .i64 (z - 1))⟩, ((hS.other 3 (.pointer none) hsx).other 4 (.pointer none) hsx).other (r * 3 + 2) (.int .i64 (z - 1)) hsc⟩
set_option maxHeartbeats 4000000 in
theorem detach_sn (w : World) (cb xb : Nat) (key d : Value) (r : Nat) (hr : r < 4) (C : List Value) (z : Int) (hz0 : 0 < z) (hz1 : z ≤ 100000)
    (hC : RowAt w cb 69 C) (hCz : C[r * 3 + 2]? = some (.int .i64 z)) (v0 v1 : Value) (hC0 : C[r * 3]? = some v0) (hC1 : C[r * 3 + 1]? = some v1) (q : Nat) (q0 q1 q2 q3 q4 : Value) (hQ : RowAt w q 73 [q0, q1, q2, q3, q4]) (hqx : q ≠ xb) (hqc : q ≠ cb)
    (hX : RowAt w xb 73 [key, .int .i64 r, d, ptr (some q), ptr none]) (hxc : xb ≠ cb) :
    Calls Try.prog 32 #[.pointer (some ⟨cb, 0, none⟩), .pointer (some ⟨xb, 0, none⟩)] w fun e w' => DPost cb xb key d r (some q) none (C.set (r * 3 + 1) (ptr (some q))) z w e w' ∧ RowAt w' q 73 [q0, q1, q2, q3, ptr none] := by
  have HC := Lib.hid hCz
  have HC0 := Lib.hid hC0
  have HC1 := Lib.hid hC1
  clear hCz hC0 hC1
  have hcx : cb ≠ xb := Ne.symm hxc
  have hxq : xb ≠ q := Ne.symm hqx
  have hcq : cb ≠ q := Ne.symm hqc
  simp only [ptr] at hX ⊢
  go_enter Try.func32, Try.ntmps32
  go_wp2_with fail
  have hf : Fr (DM cb xb (some q) none) w w.drew := (Fr.refl _ _).drew
  replace hC := hC.drew
  replace hX := hX.drew
  replace hQ := hQ.drew
  refine wp_region_parts (by kernel_rfl) (by kernel_rfl) ?_
  generalize hWe : World.drew _ = V0 at *
  clear hWe
  apply regL_lq V0.heap.size
  intro D hD hn
  have x1 := fun x : Bd V0.heap.size V0 D => (hX.next x.ok).cell 1
  simp at x1
  have r0 : (0 : Int) ≤ (r : Int) := by omega
  have r1 : (r : Int) < 4 := by omega
  repeat (apply wpLQ_pin rfl rfl; intro K hK; go_big_quiet_op; go_big_quiet_on; apply And.intro rfl)
  apply wpLQ_nil (by simp)
  intro W1 hb _
  clear hn hD
  replace hC := hC.next hb
  replace hX := hX.next hb
  replace hQ := hQ.next hb
  replace hf := hf.trans (Fr.of_below hb)
  clear hb
  clear x1
  have x3 := hX.cell 3
  simp at x3
  go_wp2_with fail
  clear x3
  replace hf := hf.drew
  replace hC := hC.drew
  replace hX := hX.drew
  replace hQ := hQ.drew
  refine wp_region_parts (by kernel_rfl) (by kernel_rfl) ?_
  generalize hWe : World.drew _ = V2 at *
  clear hWe
  apply regL_lq V2.heap.size
  intro D hD hn
  have y3 := fun x : Bd V2.heap.size V2 D => (hX.next x.ok).cell 3
  have y4 := fun x : Bd V2.heap.size V2 D => (hX.next x.ok).cell 4
  simp at y3 y4
  repeat (apply wpLQ_pin rfl rfl; intro K hK; go_big_quiet_op; go_big_quiet_on; apply And.intro rfl)
  apply wpLQ_end (bar_of (by kernel_rfl))
  intro W2 hb _
  clear hn hD
  replace hC := hC.next hb
  replace hX := hX.next hb
  replace hQ := hQ.next hb
  replace hf := hf.trans (Fr.of_below hb)
  clear hb
  clear y3 y4
  have k4 := hQ.cell 4
  have l4 := hQ.free 4
  simp at k4
  apply regL_one (bar_of (by kernel_rfl)) rfl
  unfold Oper.wp
  go_simp
  apply regL_nil
  clear k4 l4
  replace hQ := hQ.set 4 (.pointer none)
  replace hC := hC.other 4 (.pointer none) hcq
  replace hX := hX.other 4 (.pointer none) hxq
  replace hf := hf.setCell (b := q) (i := 4) (.inr (.inr (.inl rfl))) (.pointer none)
  simp only [List.set_cons_succ, List.set_cons_zero] at hQ
  generalize hWe : World.setCell W2 _ _ = W3 at *
  clear hWe
  have c0 := (hC.cell (r * 3)).trans HC0.out
  have c1 := (hC.cell (r * 3 + 1)).trans HC1.out
  have c2 := (hC.cell (r * 3 + 2)).trans HC.out
  have f0 := hC.free (r * 3)
  have f1 := hC.free (r * 3 + 1)
  have f2 := hC.free (r * 3 + 2)
  have x3 := hX.cell 3
  have x4 := hX.cell 4
  have g3 := hX.free 3
  have g4 := hX.free 4
  simp at x3 x4
  go_wp2_with fail
  go_end0
  refine ⟨⟨rfl, (((hf.setCell (b := cb) (i := r * 3 + 1) (.inl rfl) (.pointer (some ⟨q, 0, none⟩))).setCell (b := xb) (i := 3) (.inr (.inl rfl)) (.pointer none)).setCell (b := xb) (i := 4) (.inr (.inl rfl)) (.pointer none)).setCell (b := cb) (i := r * 3 + 2) (.inl rfl) (.int .i64 (z - 1)), (((hX.other (r * 3 + 1) (.pointer (some ⟨q, 0, none⟩)) hxc).set 3 (.pointer none)).set 4 (.pointer none)).other (r * 3 + 2) (.int .i64 (z - 1)) hxc, (((hC.set (r * 3 + 1) (.pointer (some ⟨q, 0, none⟩))).other 3 (.pointer none) hcx).other 4 (.pointer none) hcx).set (r * 3 + 2) (.int .i64 (z - 1))⟩, (((hQ.other (r * 3 + 1) (.pointer (some ⟨q, 0, none⟩)) hqc).other 3 (.pointer none) hqx).other 4 (.pointer none) hqx).other (r * 3 + 2) (.int .i64 (z - 1)) hqc⟩
set_option maxHeartbeats 4000000 in
theorem detach_ss (w : World) (cb xb : Nat) (key d : Value) (r : Nat) (hr : r < 4) (C : List Value) (z : Int) (hz0 : 0 < z) (hz1 : z ≤ 100000)
    (hC : RowAt w cb 69 C) (hCz : C[r * 3 + 2]? = some (.int .i64 z)) (v0 v1 : Value) (hC0 : C[r * 3]? = some v0) (hC1 : C[r * 3 + 1]? = some v1) (q : Nat) (q0 q1 q2 q3 q4 : Value) (hQ : RowAt w q 73 [q0, q1, q2, q3, q4]) (hqx : q ≠ xb) (hqc : q ≠ cb) (s : Nat) (s0 s1 s2 s3 s4 : Value) (hS : RowAt w s 73 [s0, s1, s2, s3, s4]) (hsx : s ≠ xb) (hsc : s ≠ cb) (hqs : q ≠ s)
    (hX : RowAt w xb 73 [key, .int .i64 r, d, ptr (some q), ptr (some s)]) (hxc : xb ≠ cb) :
    Calls Try.prog 32 #[.pointer (some ⟨cb, 0, none⟩), .pointer (some ⟨xb, 0, none⟩)] w fun e w' => DPost cb xb key d r (some q) (some s) C z w e w' ∧ RowAt w' q 73 [q0, q1, q2, q3, ptr (some s)] ∧ RowAt w' s 73 [s0, s1, s2, ptr (some q), s4] := by
  have HC := Lib.hid hCz
  have HC0 := Lib.hid hC0
  have HC1 := Lib.hid hC1
  clear hCz hC0 hC1
  have hcx : cb ≠ xb := Ne.symm hxc
  have hxq : xb ≠ q := Ne.symm hqx
  have hcq : cb ≠ q := Ne.symm hqc
  have hxs : xb ≠ s := Ne.symm hsx
  have hcs : cb ≠ s := Ne.symm hsc
  have hsq : s ≠ q := Ne.symm hqs
  simp only [ptr] at hX ⊢
  go_enter Try.func32, Try.ntmps32
  go_wp2_with fail
  have hf : Fr (DM cb xb (some q) (some s)) w w.drew := (Fr.refl _ _).drew
  replace hC := hC.drew
  replace hX := hX.drew
  replace hQ := hQ.drew
  replace hS := hS.drew
  refine wp_region_parts (by kernel_rfl) (by kernel_rfl) ?_
  generalize hWe : World.drew _ = V0 at *
  clear hWe
  apply regL_lq V0.heap.size
  intro D hD hn
  have x1 := fun x : Bd V0.heap.size V0 D => (hX.next x.ok).cell 1
  simp at x1
  have r0 : (0 : Int) ≤ (r : Int) := by omega
  have r1 : (r : Int) < 4 := by omega
  repeat (apply wpLQ_pin rfl rfl; intro K hK; go_big_quiet_op; go_big_quiet_on; apply And.intro rfl)
  apply wpLQ_nil (by simp)
  intro W1 hb _
  clear hn hD
  replace hC := hC.next hb
  replace hX := hX.next hb
  replace hQ := hQ.next hb
  replace hS := hS.next hb
  replace hf := hf.trans (Fr.of_below hb)
  clear hb
  clear x1
  have x3 := hX.cell 3
  simp at x3
  go_wp2_with fail
  clear x3
  replace hf := hf.drew
  replace hC := hC.drew
  replace hX := hX.drew
  replace hQ := hQ.drew
  replace hS := hS.drew
  refine wp_region_parts (by kernel_rfl) (by kernel_rfl) ?_
  generalize hWe : World.drew _ = V2 at *
  clear hWe
  apply regL_lq V2.heap.size
  intro D hD hn
  have y3 := fun x : Bd V2.heap.size V2 D => (hX.next x.ok).cell 3
  have y4 := fun x : Bd V2.heap.size V2 D => (hX.next x.ok).cell 4
  simp at y3 y4
  repeat (apply wpLQ_pin rfl rfl; intro K hK; go_big_quiet_op; go_big_quiet_on; apply And.intro rfl)
  apply wpLQ_end (bar_of (by kernel_rfl))
  intro W2 hb _
  clear hn hD
  replace hC := hC.next hb
  replace hX := hX.next hb
  replace hQ := hQ.next hb
  replace hS := hS.next hb
  replace hf := hf.trans (Fr.of_below hb)
  clear hb
  clear y3 y4
  have k4 := hQ.cell 4
  have l4 := hQ.free 4
  simp at k4
  apply regL_one (bar_of (by kernel_rfl)) rfl
  unfold Oper.wp
  go_simp
  apply regL_nil
  clear k4 l4
  replace hQ := hQ.set 4 (.pointer (some ⟨s, 0, none⟩))
  replace hC := hC.other 4 (.pointer (some ⟨s, 0, none⟩)) hcq
  replace hX := hX.other 4 (.pointer (some ⟨s, 0, none⟩)) hxq
  replace hS := hS.other 4 (.pointer (some ⟨s, 0, none⟩)) hsq
  replace hf := hf.setCell (b := q) (i := 4) (.inr (.inr (.inl rfl))) (.pointer (some ⟨s, 0, none⟩))
  simp only [List.set_cons_succ, List.set_cons_zero] at hQ
  generalize hWe : World.setCell W2 _ _ = W3 at *
  clear hWe
  have x4 := hX.cell 4
  simp at x4
  go_wp2_with fail
  clear x4
  replace hf := hf.drew
  replace hC := hC.drew
  replace hX := hX.drew
  replace hQ := hQ.drew
  replace hS := hS.drew
  refine wp_region_parts (by kernel_rfl) (by kernel_rfl) ?_
  generalize hWe : World.drew _ = V4 at *
  clear hWe
  apply regL_lq V4.heap.size
  intro D hD hn
  have y3 := fun x : Bd V4.heap.size V4 D => (hX.next x.ok).cell 3
  have y4 := fun x : Bd V4.heap.size V4 D => (hX.next x.ok).cell 4
  simp at y3 y4
  repeat (apply wpLQ_pin rfl rfl; intro K hK; go_big_quiet_op; go_big_quiet_on; apply And.intro rfl)
  apply wpLQ_end (bar_of (by kernel_rfl))
  intro W5 hb _
  clear hn hD
  replace hC := hC.next hb
  replace hX := hX.next hb
  replace hQ := hQ.next hb
  replace hS := hS.next hb
  replace hf := hf.trans (Fr.of_below hb)
  clear hb
  clear y3 y4
  have k3 := hS.cell 3
  have l3 := hS.free 3
  simp at k3
  apply regL_one (bar_of (by kernel_rfl)) rfl
  unfold Oper.wp
  go_simp
  apply regL_nil
  clear k3 l3
  replace hS := hS.set 3 (.pointer (some ⟨q, 0, none⟩))
  replace hC := hC.other 3 (.pointer (some ⟨q, 0, none⟩)) hcs
  replace hX := hX.other 3 (.pointer (some ⟨q, 0, none⟩)) hxs
  replace hQ := hQ.other 3 (.pointer (some ⟨q, 0, none⟩)) hqs
  replace hf := hf.setCell (b := s) (i := 3) (.inr (.inr (.inr rfl))) (.pointer (some ⟨q, 0, none⟩))
  simp only [List.set_cons_succ, List.set_cons_zero] at hS
  generalize hWe : World.setCell W5 _ _ = W6 at *
  clear hWe
  have c2 := (hC.cell (r * 3 + 2)).trans HC.out
  have f2 := hC.free (r * 3 + 2)
  have x3 := hX.cell 3
  have x4 := hX.cell 4
  have g3 := hX.free 3
  have g4 := hX.free 4
  simp at x3 x4
  go_wp2_with fail
  go_end0
  refine ⟨⟨rfl, ((hf.setCell (b := xb) (i := 3) (.inr (.inl rfl)) (.pointer none)).setCell (b := xb) (i := 4) (.inr (.inl rfl)) (.pointer none)).setCell (b := cb) (i := r * 3 + 2) (.inl rfl) (.int .i64 (z - 1)), ((hX.set 3 (.pointer none)).set 4 (.pointer none)).other (r * 3 + 2) (.int .i64 (z - 1)) hxc, ((hC.other 3 (.pointer none) hcx).other 4 (.pointer none) hcx).set (r * 3 + 2) (.int .i64 (z - 1))⟩, ((hQ.other 3 (.pointer none) hqx).other 4 (.pointer none) hqx).other (r * 3 + 2) (.int .i64 (z - 1)) hqc, ((hS.other 3 (.pointer none) hsx).other 4 (.pointer none) hsx).other (r * 3 + 2) (.int .i64 (z - 1)) hsc⟩
end Go.Proofs.Ytefjpljjdjecjaa
