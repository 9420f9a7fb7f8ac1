/- puts. -/
import Derived.Test.YtefjpljjdjecjaaWr
namespace Go.Proofs.Ytefjpljjdjecjaa
open Go.RowKit
def putsP (p : Pu) (keys : List Int) : Pu := keys.foldl (fun q k => putP q k k) p
theorem putsP_snoc (p : Pu) (l : List Int) (k : Int) : putsP p (l ++ [k]) = putP (putsP p l) k k := by simp [putsP]
def InA (A : Nat → Prop) (v : Value) : Prop := ∀ a n c, v = .slice (some a) n c → A a.block
def PInv (A : Nat → Prop) (w : World) (cb : Nat) (p : Pu) (keys : List Int) (ok i : Value) (wr : World) : Prop := ∃ k : Nat, k ≤ keys.length ∧ i = .int .i64 k ∧ ok = .bool true ∧ PA A wr cb (putsP p (keys.take k)) ∧ Kp A w wr
set_option maxHeartbeats 4000000 in
theorem puts_any {A : Nat → Prop} (w : World) (cb : Nat) (p : Pu) (h : PA A w cb p) (hA : ∀ k, A k → k < w.heap.size) (B : Nat) (keys : List Int) (v : Value) (hv : IntsAt B keys v w) (hin : InA A v) (hk : ∀ k ∈ keys, 0 ≤ k ∧ k < 256) (hn : keys.length ≤ 1000) :
    Calls Try.prog 18 #[.pointer (some ⟨cb, 0, none⟩), v] w fun e w' => e = .returned (.bool true) ∧ PA A w' cb (putsP p keys) ∧ Kp A w w' := by
  obtain ⟨a, cap, rfl, hs, _, _⟩ := hv
  obtain ⟨n, hnl⟩ : ∃ n, n = keys.length := ⟨_, rfl⟩
  rw [← hnl] at hs hn hin ⊢
  have H := Lib.hid h
  have HS := Lib.hid hs
  have HIN := Lib.hid hin
  have HK := Lib.hid hk
  have HA := Lib.hid hA
  have HNL := Lib.hid hnl
  clear h hs hin hk hA hnl
  go_enter Try.func18, Try.ntmps18
  go_wp2_with fail
  go_loopw [5, 6] (fun ok i wr => PInv A w cb p keys ok i wr) (fun _ i _ => n - (intOf i).toNat)
  case atStart => exact ⟨0, by omega, rfl, rfl, H.out, Kp.refl _ _⟩
  case round =>
    obtain ⟨k, hk, rfl, rfl, hp, hkp⟩ := hrel
    rw [← HNL.out] at hk
    have HP := Lib.hid hp
    have HKP := Lib.hid hkp
    clear hp hkp
    by_cases hlt : k < n
    · have hs2 := HS.out.fr HKP.out (fun x hx hn => hn (HIN.out x n cap (by rw [hx])))
      obtain ⟨b1, o1, rfl, l1, q1⟩ := hs2.get k hlt
      obtain ⟨x, hx⟩ : ∃ x, keys[k]? = some x := ⟨keys[k]'(by rw [← HNL.out]; omega), List.getElem?_eq_getElem _⟩
      rw [List.getElem?_map, hx] at q1
      have d1 : wr.cell? ⟨b1, o1 + k, none⟩ = some (.int .i64 x) := q1
      obtain ⟨x0, x1⟩ := HK.out x (List.mem_of_getElem? hx)
      have HX := Lib.hid hx
      obtain ⟨Y, hY⟩ : ∃ Y, Y = blk x := ⟨_, rfl⟩
      have hb30 := built30c x
      rw [← hY] at hb30
      have HB30 := Lib.hid hb30
      have HY := Lib.hid hY
      clear q1 hx hs2 hb30 hY
      go_wp2_with fail
      refine wp_region_parts (by kernel_rfl) (by kernel_rfl) ?_
      have hb0 : Below wr.heap.size wr wr.drew := (Below.refl _ _).drew
      generalize wr.drew = W at *
      apply regL_lq W.heap.size
      intro D hD hn'
      have p1 := fun z : Bd W.heap.size W D => ((bt hb0 z.ok).cell l1).trans d1
      repeat (apply wpLQ_pin rfl rfl; intro K hK; go_big_quiet_op; (first | go_big_quiet_on | fail); apply And.intro rfl)
      apply wpLQ_at (.agg Y.toArray) (Nat.le_refl _) hD rfl
      · intro z _
        unfold Runs execOp
        simp only [List.map_toArray, List.map_cons, List.map_nil, Sem.run_bind]
        show runsUpon Try.prog _ (((Instr.build 30 #[(0, Value.int .u8 x)]).run Try.prog z.val).andThen fun a w' => (pure (Next.value a) : Sem Next).run Try.prog w')
        rw [run_build _ 30 #[(0, .int .u8 x)] Y.toArray HB30.out]
        exact ⟨rfl, Below.refl _ _⟩
      simp only [Act.put, List.setIfInBounds_toArray, List.set_cons_succ, List.set_cons_zero]
      apply wpLQ_end (bar_of (by kernel_rfl))
      intro W1 hb1 _
      have HBB := Lib.hid (bt hb0 hb1)
      clear p1 hn' hD hb1 hb0 d1 l1
      apply regL_one (bar_of (by kernel_rfl)) rfl
      unfold Oper.wp
      go_simp
      have hput := put_pa W1 cb _ (HP.out.next HBB.out) (fun k hk => Nat.lt_of_lt_of_le (HA.out k hk) (Nat.le_trans HKP.out.size HBB.out.size)) x x
      rw [← HY.out] at hput
      refine hput.mono ?_
      rintro e W2 ⟨rfl, hp2, hk2⟩
      have HP2 := Lib.hid hp2
      have HK2 := Lib.hid (Fr.trans (HKP.out.next HBB.out) hk2)
      clear hp2 hk2 hput
      dsimp only
      apply regL_lq W2.heap.size
      intro D hD hn'
      repeat (apply wpLQ_pin rfl rfl; intro K hK; go_big_quiet_op; go_big_quiet_on; apply And.intro rfl)
      apply wpLQ_nil (by simp)
      intro W3 hb3 _
      have HB3 := Lib.hid hb3
      clear hb3 hn' hD
      go_wp2
      go_roundw
      case rel =>
        refine ⟨k + 1, by have := HNL.out; omega, by go_num, rfl, ?_, Kp.next HK2.out HB3.out⟩
        rw [List.take_add_one, HX.out]
        simp only [Option.toList_some, putsP_snoc]
        exact HP2.out.next HB3.out
      case measure => simp [intOf]; omega
    · obtain rfl : k = n := by omega
      go_wp2
      go_ret
      have e := HP.out
      rw [List.take_of_length_le (by have := HNL.out; omega)] at e
      exact ⟨rfl, e, HKP.out⟩
end Go.Proofs.Ytefjpljjdjecjaa
