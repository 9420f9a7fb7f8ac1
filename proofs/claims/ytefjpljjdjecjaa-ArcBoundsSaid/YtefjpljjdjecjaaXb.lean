/- ArcBounds: the walk. -/
import Derived.Test.YtefjpljjdjecjaaXa
import Derived.Deep.DeepCutAuto
import Derived.Deep.CutBlock
namespace Go.Proofs.Ytefjpljjdjecjaa
open Go.RowKit
def BInv (w : World) (cb N n : Nat) (l : List St) (i : Value) (wr : World) : Prop := ∃ k : Nat, k ≤ n ∧ i = .int .i64 k ∧ (∃ p, PB w.heap.size wr cb p ∧ EV p (valOf l k) ∧ p.room = N) ∧ Below w.heap.size w wr
theorem app_list {B : Nat} {W wr : World} {one v : Value} {L M : List Int} (ho : wr.ownsRow W.heap.size 3 1 one L.length (L.map I64)) (hb : Below W.heap.size W wr) (hv : IntsAt B M v W) (hl : L.length + M.length ≤ 100000) :
    ∃ v' w', (Builtin.append_ #[33, 33] 33 #[one, v]).run Try.prog wr = .ok v' w' ∧ w'.ownsRow W.heap.size 3 1 v' (L ++ M).length ((L ++ M).map I64) ∧ Below W.heap.size W w' := by
  obtain ⟨a, cap, rfl, h1, h2, h3⟩ := hv.next hb
  obtain ⟨i, z, e1, e2, e3, e4, e5⟩ := info3
  obtain ⟨v', w', hrun, ho', _, _, hb'⟩ := run_app (P := Try.prog) wr W.heap.size 33 33 3 i z 8 Try.underlying33 e1 e2 e3 e4 e5 one L.length _ ho a M.length cap (M.map I64) h1 h2 (fun u hu => by obtain ⟨y, _, rfl⟩ := List.mem_map.1 hu; rfl) (by unfold maxLen; omega) (by omega) hb.size
  refine ⟨v', w', hrun, ?_, hb.trans hb'⟩
  rw [List.length_append, List.map_append]
  exact ho'
def GInv (w5 : World) (l : List St) (key : Int) (k : Nat) (at_ i : Value) (wz : World) : Prop := ∃ j : Nat, j ≤ k ∧ i = .int .i64 j ∧ at_ = .int .i64 (atOf l key j) ∧ Below w5.heap.size w5 wz
section
variable {P : Program} {w : World} {o : Oper} {a : Act} {R : Value → World → Prop}
theorem runs_loadR {x : Operand} {g : Nat} {v : List Value} {T : TypeId} (ho : o.op = .load T x) (hx : a.eval x = .pointer (some ⟨g, 0, none⟩)) (hr : (loadVar T ⟨g, 0, none⟩).run P w = .ok (.agg v.toArray) w) (h : R (.agg v.toArray) w) : Runs P o a w R := by
  unfold Runs execOp
  simp only [ho, hx, Instr.loadAt, Instr.sureAddr, Sem.run_bind, Sem.run_pure, Result.andThen_ok, hr]
  exact h
theorem runs_buildR {t : TypeId} {parts : Array (Nat × Operand)} {v : List Value} (ho : o.op = .build t parts) (l : List (Nat × Value)) (hl : (parts.map fun (i, x) => (i, a.eval x)).toList = l) (hb : P.built t l = some v.toArray) (h : R (.agg v.toArray) w) : Runs P o a w R := by
  unfold Runs execOp
  simp only [ho, Sem.run_bind, run_build w t _ v.toArray (hl ▸ hb), Result.andThen_ok]
  exact h
theorem runs_eqlR {t : TypeId} {op : BinOp} {x y : Operand} {u v : List Value} {b : Bool} {t2 : TypeId} (ho : o.op = .binOp op t x y t2) (hx : a.eval x = .agg u.toArray) (hy : a.eval y = .agg v.toArray) (hg : (eqGuard op t x y (.agg u.toArray) (.agg v.toArray)).run P w = .ok () w) (hr : (binOp op t (.agg u.toArray) (.agg v.toArray)).run P w = .ok (.bool b) w) (h : R (.bool b) w) : Runs P o a w R := by
  unfold Runs execOp
  simp only [ho, hx, hy, Sem.run_bind, Sem.run_pure, Result.andThen_ok, hg, hr]
  exact h
end
def XInv (W : World) (M : Nat) (i : Value) (wz : World) : Prop := ∃ x : Nat, x ≤ M ∧ i = .int .i64 x ∧ Below W.heap.size W wz
set_option maxRecDepth 20000 in
set_option maxHeartbeats 16000000 in
theorem bounds_law (w : World) (room : Int) (r0 : 0 ≤ room) (r1 : room < 256) (a : Option Addr) (n cap : Nat) (l : List St) (hs : StepsAt w a n l) (hm : n ≤ maxLen) :
    Calls Try.prog 5 #[.int .u8 room, .slice a n cap] w fun e w' => e = .returned (.bool true) ∧ Below w.heap.size w w' := by
  unfold maxLen at hm
  have HS := Lib.hid hs
  have hrem : room % 20 < 20 := by omega
  have hrem0 : 0 ≤ room % 20 := by omega
  clear hs
  go_enter Try.func5, Try.ntmps5
  go_wp2_with fail
  refine (works_any w).mono ?_
  rintro e w1 ⟨rfl, hb⟩
  have HB1 := Lib.hid hb
  clear hb
  by_cases hlen : n ≤ 300
  · obtain ⟨N, hN⟩ : ∃ N : Nat, 1 + room % 20 = (N : Int) := ⟨(1 + room % 20).toNat, by omega⟩
    have hN1 : 1 ≤ N := by omega
    have hN2 : N ≤ 20 := by omega
    go_wp2_with fail
    refine (new_pa w1 N (by omega) (by omega)).mono ?_
    rintro e w2 ⟨cb, rfl, hp, hb⟩
    have HP2 := Lib.hid (hp.mono (A' := (· < w.heap.size)) fun k hk => Nat.lt_of_lt_of_le hk HB1.out.size)
    have HB2 := Lib.hid (bt HB1.out hb)
    have HN := Lib.hid hN
    clear hp hb hN
    go_wp2_with fail
    go_loopw [8] (fun i wr => BInv w cb N n l i wr) (fun i _ => n - (intOf i).toNat)
    case atStart => exact ⟨0, by omega, rfl, ⟨_, HP2.out, fun e he => by simp [newPu] at he, rfl⟩, HB2.out⟩
    case round =>
      obtain ⟨k, hk, rfl, ⟨p, hp, hev, hroom⟩, hb⟩ := hrel
      have HP := Lib.hid hp
      have HEV := Lib.hid hev
      have HRM := Lib.hid hroom
      have HB := Lib.hid hb
      clear hp hev hroom hb
      by_cases hlt : k < n
      · obtain ⟨b1, o1, rfl, l1, hcs⟩ := HS.out.get k hlt
        have hll : k < l.length := by have := HS.out.1; omega
        obtain ⟨x, hx⟩ : ∃ x, l[k]? = some x := ⟨l[k], List.getElem?_eq_getElem _⟩
        obtain ⟨q1, q2, q3⟩ := hcs k x hx
        have hok := HS.out.2.1 x (List.mem_of_getElem? hx)
        obtain ⟨hk1, hc1, hy1, hy2⟩ := hok
        have d1 := (HB.out.cell (p := ⟨b1, o1 + k * 3, none⟩) l1).trans q1
        have d2 := (HB.out.cell (p := ⟨b1, o1 + k * 3 + 1, none⟩) l1).trans q2
        have d3 := (HB.out.cell (p := ⟨b1, o1 + k * 3 + 2, none⟩) l1).trans q3
        have HX := Lib.hid hx
        have HCS := Lib.hid hcs
        clear q1 q2 q3 hx hcs
        obtain ⟨kd, hkd⟩ : ∃ kd : Int, kd = x.kind := ⟨_, rfl⟩
        rw [← hkd] at d1
        have kd0 : 0 ≤ kd := by omega
        have kd1 : kd < 256 := by omega
        have HKD := Lib.hid hkd
        clear hkd
        obtain ⟨Y, hY⟩ : ∃ Y, Y = blk (x.c : Int) := ⟨_, rfl⟩
        have hb30 := built30c (x.c : Int)
        rw [← hY] at hb30
        have HB30 := Lib.hid hb30
        have HY := Lib.hid hY
        clear hY hb30
        go_upto_block 2 with fail
        go_cut [9, 10, 11, 12] from 39 to 235 (fun _ _ _ _ wx => ∃ q, PB w.heap.size wx cb q ∧ EV q (valOf l (k + 1)) ∧ q.room = N ∧ Below w.heap.size w wx)
        case first =>
          by_cases hput : kd % 4 = 0
          · have HPU : Hid (x.kind % 4 = 0 ∨ x.kind % 4 = 3) := Lib.hid (by have := HKD.out; omega)
            as_aux_lemma =>
              go_wp2_with fail
              refine wp_region_parts (by kernel_rfl) (by kernel_rfl) ?_
              have hb0 : Below wr.heap.size wr wr.drew := (Below.refl _ _).drew
              have hlb : b1 < wr.heap.size := Nat.lt_of_lt_of_le l1 HB.out.size
              generalize wr.drew = W at *
              apply regL_lq W.heap.size
              intro D hD hn'
              have p2 := fun z : Bd W.heap.size W D => ((bt hb0 z.ok).cell (p := ⟨b1, o1 + k * 3 + 1, none⟩) hlb).trans d2
              have p3 := fun z : Bd W.heap.size W D => ((bt hb0 z.ok).cell (p := ⟨b1, o1 + k * 3 + 2, none⟩) hlb).trans d3
              repeat (apply wpLQ_pin rfl rfl; intro K hK; go_big_quiet_op; (first | go_big_quiet_on | fail); apply And.intro rfl)
              apply wpLQ_at (.agg Y.toArray) (Nat.le_refl _) hD rfl
              · intro z _
                unfold Runs execOp
                simp only [List.map_toArray, List.map_cons, List.map_nil, Sem.run_bind]
                show runsUpon Try.prog _ (((Instr.build 30 #[(0, Value.int .u8 (x.c : Int))]).run Try.prog z.val).andThen fun a w' => (pure (Next.value a) : Sem Next).run Try.prog w')
                rw [run_build _ 30 #[(0, .int .u8 (x.c : Int))] Y.toArray HB30.out]
                exact ⟨rfl, Below.refl _ _⟩
              simp only [Act.put, List.setIfInBounds_toArray, List.set_cons_succ, List.set_cons_zero]
              apply wpLQ_end (bar_of (by kernel_rfl))
              intro W1 hb1 _
              have HBB := Lib.hid (bt hb0 hb1)
              clear p2 p3 hn' hD hb1 hb0 d1 d2 d3
              apply regL_one (bar_of (by kernel_rfl)) rfl
              unfold Oper.wp
              go_simp
              have hcp := put_pb W1 cb _ (HP.out.next HBB.out) (Nat.le_trans HB.out.size HBB.out.size) x.key x.c
              rw [← HY.out] at hcp
              refine hcp.mono ?_
              rintro e W2 ⟨rfl, hp2, hk2⟩
              have HP2' := Lib.hid hp2
              have HB2' := Lib.hid ((HB.out.trans (HBB.out.mono HB.out.size)).trans hk2)
              clear hp2 hk2 hcp
              dsimp only
              apply regL_lq W2.heap.size
              intro D hD hn'
              repeat (apply wpLQ_pin rfl rfl; intro K hK; go_big_quiet_op; go_big_quiet_on; apply And.intro rfl)
              apply wpLQ_nil (by simp)
              intro V hb3 _
              have HPn0 := Lib.hid (HP2'.out.next hb3)
              have HBn := Lib.hid (HB2'.out.trans (hb3.mono HB2'.out.size))
              have HEVn0 : Hid (EV (putP p x.key x.c) (valOf l (k + 1))) := Lib.hid ((HEV.out.put x.key x.c).congr (valOf_put HX.out HPU.out))
              have HRMn0 : Hid ((putP p x.key x.c).room = N) := Lib.hid ((putP_room _ _ _).trans HRM.out)
              go_wp2_with fail
              go_meet
              exact ⟨_, HPn0.out, HEVn0.out, HRMn0.out, HBn.out⟩
          · by_cases hput3 : kd % 4 = 3
            · have HPU : Hid (x.kind % 4 = 0 ∨ x.kind % 4 = 3) := Lib.hid (by have := HKD.out; omega)
              clear hput
              as_aux_lemma =>
                go_wp2_with fail
                refine wp_region_parts (by kernel_rfl) (by kernel_rfl) ?_
                have hb0 : Below wr.heap.size wr wr.drew := (Below.refl _ _).drew
                have hlb : b1 < wr.heap.size := Nat.lt_of_lt_of_le l1 HB.out.size
                generalize wr.drew = W at *
                apply regL_lq W.heap.size
                intro D hD hn'
                have p2 := fun z : Bd W.heap.size W D => ((bt hb0 z.ok).cell (p := ⟨b1, o1 + k * 3 + 1, none⟩) hlb).trans d2
                have p3 := fun z : Bd W.heap.size W D => ((bt hb0 z.ok).cell (p := ⟨b1, o1 + k * 3 + 2, none⟩) hlb).trans d3
                repeat (apply wpLQ_pin rfl rfl; intro K hK; go_big_quiet_op; (first | go_big_quiet_on | fail); apply And.intro rfl)
                apply wpLQ_at (.agg Y.toArray) (Nat.le_refl _) hD rfl
                · intro z _
                  unfold Runs execOp
                  simp only [List.map_toArray, List.map_cons, List.map_nil, Sem.run_bind]
                  show runsUpon Try.prog _ (((Instr.build 30 #[(0, Value.int .u8 (x.c : Int))]).run Try.prog z.val).andThen fun a w' => (pure (Next.value a) : Sem Next).run Try.prog w')
                  rw [run_build _ 30 #[(0, .int .u8 (x.c : Int))] Y.toArray HB30.out]
                  exact ⟨rfl, Below.refl _ _⟩
                simp only [Act.put, List.setIfInBounds_toArray, List.set_cons_succ, List.set_cons_zero]
                apply wpLQ_end (bar_of (by kernel_rfl))
                intro W1 hb1 _
                have HBB := Lib.hid (bt hb0 hb1)
                clear p2 p3 hn' hD hb1 hb0 d1 d2 d3
                apply regL_one (bar_of (by kernel_rfl)) rfl
                unfold Oper.wp
                go_simp
                have hcp := put_pb W1 cb _ (HP.out.next HBB.out) (Nat.le_trans HB.out.size HBB.out.size) x.key x.c
                rw [← HY.out] at hcp
                refine hcp.mono ?_
                rintro e W2 ⟨rfl, hp2, hk2⟩
                have HP2' := Lib.hid hp2
                have HB2' := Lib.hid ((HB.out.trans (HBB.out.mono HB.out.size)).trans hk2)
                clear hp2 hk2 hcp
                dsimp only
                apply regL_lq W2.heap.size
                intro D hD hn'
                repeat (apply wpLQ_pin rfl rfl; intro K hK; go_big_quiet_op; go_big_quiet_on; apply And.intro rfl)
                apply wpLQ_nil (by simp)
                intro V hb3 _
                have HPn0 := Lib.hid (HP2'.out.next hb3)
                have HBn := Lib.hid (HB2'.out.trans (hb3.mono HB2'.out.size))
                have HEVn0 : Hid (EV (putP p x.key x.c) (valOf l (k + 1))) := Lib.hid ((HEV.out.put x.key x.c).congr (valOf_put HX.out HPU.out))
                have HRMn0 : Hid ((putP p x.key x.c).room = N) := Lib.hid ((putP_room _ _ _).trans HRM.out)
                go_wp2_with fail
                go_meet
                exact ⟨_, HPn0.out, HEVn0.out, HRMn0.out, HBn.out⟩
            · by_cases hg : kd % 4 = 1
              · have HPU : Hid (x.kind % 4 = 1) := Lib.hid (by have := HKD.out; omega)
                clear hput hput3
                have hget := get_pb wr cb p HP.out HB.out.size x.key
                cases hl : lookP p x.key with
                | none =>
                  as_aux_lemma =>
                    obtain ⟨C, hC⟩ : ∃ C, C = blk 0 := ⟨_, rfl⟩
                    rw [show getV p x.key = .tuple #[.agg C.toArray, .int .i64 5] from by unfold getV; rw [hl, hC]] at hget
                    have HC := Lib.hid hC
                    have HC1 : Hid (OneC C) := Lib.hid (by rw [hC]; exact blk_one 0)
                    obtain ⟨Z, hZ⟩ : ∃ Z, Z = blk 0 := ⟨_, rfl⟩
                    have z30 : ∀ w, (zeroValue 30).run Try.prog w = .ok (.agg Z.toArray) w := by intro w; rw [hZ]; exact zero30 w
                    have HI : Hid ((Try.prog.info? 30).map (·.size) = some C.toArray.size) := Lib.hid (by rw [info30]; simp [HC1.out.1])
                    have HO : Hid (Z.toArray.size = C.toArray.size) := Lib.hid (by rw [hZ]; simp [HC1.out.1, (blk_one 0).1])
                    have HGET := Lib.hid hget
                    clear hget hC hZ hl
                    go_wp2_with fail
                    refine HGET.out.mono ?_
                    rintro e w4 ⟨rfl, hp4, hb4⟩
                    have HP4 := Lib.hid hp4
                    have HB4 := Lib.hid (HB.out.trans hb4)
                    have HD := Lib.hid (RowAt.new w4 30 Z)
                    have HD5' := Lib.hid ((RowAt.new w4 30 Z).setRow (l' := C))
                    have hb5 : Below w4.heap.size w4 ((w4.alloc (.cells Z.toArray 30)).setRow w4.heap.size C.toArray) := ((Below.refl _ _).alloc (Nat.le_refl _) _).trans (below_setRow (Nat.le_refl _))
                    have HP5 := Lib.hid (HP4.out.next hb5)
                    have HB5 := Lib.hid (HB4.out.trans (hb5.mono HB4.out.size))
                    clear hp4 hb4 hb5 d1 d2 d3
                    go_wp2_with (refine wpList_store_row rfl 30 (.tmp 9) (.tmp 85) rfl w4.heap.size C.toArray rfl rfl 30 Z.toArray HD.out HI.out HO.out HC1.out.2 ?_)
                    generalize (w4.alloc (.cells Z.toArray 30)).setRow w4.heap.size C.toArray = w5 at *
                    obtain ⟨b9, hb9⟩ : ∃ b, b = w4.heap.size := ⟨_, rfl⟩
                    have HD5 : Hid (RowAt w5 b9 30 C) := Lib.hid (by rw [hb9]; exact HD5'.out)
                    rw [← hb9]
                    clear hb9 HD5' HD HI HO z30 HP4 HB4
                    go_loopw [11, 12] (fun at_ i wz => GInv w5 l x.key k at_ i wz) (fun _ i _ => k - (intOf i).toNat)
                    case atStart => exact ⟨0, by omega, rfl, rfl, Below.refl _ _⟩
                    case round =>
                      obtain ⟨j, hj, rfl, rfl, hbw⟩ := hrel
                      have HBW := Lib.hid hbw
                      clear hbw
                      by_cases hlj : j < k
                      · obtain ⟨y, hy⟩ : ∃ y, l[j]? = some y := ⟨l[j], List.getElem?_eq_getElem _⟩
                        obtain ⟨g1, g2, _⟩ := HCS.out j y hy
                        obtain ⟨_, g3, _⟩ := HCS.out k x HX.out
                        obtain ⟨hyk, _, hyl, hyh⟩ := HS.out.2.1 y (List.mem_of_getElem? hy)
                        have HAT : Hid (atOf l x.key (j + 1) = if y.key = x.key ∧ y.kind % 4 = 2 then -1 else if y.key = x.key ∧ (y.kind % 4 = 0 ∨ y.kind % 4 = 3) then (j : Int) else atOf l x.key j) := Lib.hid (by rw [atOf, hy])
                        obtain ⟨av, hav⟩ : ∃ av, av = atOf l x.key j := ⟨_, rfl⟩
                        rw [← hav] at HAT ⊢
                        clear hav hy
                        by_cases hkey : y.key = x.key
                        · rw [hkey] at g2
                          have h4 : y.kind % 4 = 0 ∨ y.kind % 4 = 1 ∨ y.kind % 4 = 2 ∨ y.kind % 4 = 3 := by omega
                          rcases h4 with h4 | h4 | h4 | h4
                          · as_aux_lemma =>
                              have hkj : (y.kind : Int) % 4 = 0 := by omega
                              have HK4 := Lib.hid h4
                              have HKEY := Lib.hid hkey
                              clear h4 hkey
                              go_wp2_with fail
                              refine wp_region_parts (by kernel_rfl) (by kernel_rfl) ?_
                              have hb0 : Below wr.heap.size wr wr.drew := (Below.refl _ _).drew
                              have hbx := HB5.out.trans (HBW.out.mono HB5.out.size)
                              have hsz : b1 < wr.heap.size := Nat.lt_of_lt_of_le l1 hbx.size
                              have f1 := (hbx.cell (p := ⟨b1, o1 + j * 3, none⟩) l1).trans g1
                              have f2 := (hbx.cell (p := ⟨b1, o1 + j * 3 + 1, none⟩) l1).trans g2
                              have f3 := (hbx.cell (p := ⟨b1, o1 + k * 3 + 1, none⟩) l1).trans g3
                              clear hbx
                              generalize wr.drew = W at *
                              apply regL_lq W.heap.size
                              intro D hD hn'
                              have p1 := fun z : Bd W.heap.size W D => ((bt hb0 z.ok).cell (p := ⟨b1, o1 + j * 3, none⟩) hsz).trans f1
                              have p2 := fun z : Bd W.heap.size W D => ((bt hb0 z.ok).cell (p := ⟨b1, o1 + j * 3 + 1, none⟩) hsz).trans f2
                              have p3 := fun z : Bd W.heap.size W D => ((bt hb0 z.ok).cell (p := ⟨b1, o1 + k * 3 + 1, none⟩) hsz).trans f3
                              repeat (first | (apply wpLQ_skip rfl; simp only [Act.put, List.setIfInBounds_toArray, List.set_cons_succ, List.set_cons_zero]) | (apply wpLQ_pin rfl rfl; intro K hK; go_big_quiet_op; (first | go_big_quiet_on | fail); apply And.intro rfl))
                              apply wpLQ_nil (by simp)
                              intro V1 hbq _
                              have HV1 := Lib.hid (bt HBW.out (bt hb0 hbq))
                              clear p1 p2 p3 hn' hD hbq hb0 f1 f2 f3 hsz
                              go_wp2_with fail
                              refine wp_region_parts (by kernel_rfl) (by kernel_rfl) ?_
                              have hb0 : Below V1.heap.size V1 V1.drew := (Below.refl _ _).drew
                              have hbx := HB5.out.trans (HV1.out.mono HB5.out.size)
                              have hsz : b1 < V1.heap.size := Nat.lt_of_lt_of_le l1 hbx.size
                              have f1 := (hbx.cell (p := ⟨b1, o1 + j * 3, none⟩) l1).trans g1
                              have f2 := (hbx.cell (p := ⟨b1, o1 + j * 3 + 1, none⟩) l1).trans g2
                              have f3 := (hbx.cell (p := ⟨b1, o1 + k * 3 + 1, none⟩) l1).trans g3
                              clear hbx
                              generalize V1.drew = W at *
                              apply regL_lq W.heap.size
                              intro D hD hn'
                              have p1 := fun z : Bd W.heap.size W D => ((bt hb0 z.ok).cell (p := ⟨b1, o1 + j * 3, none⟩) hsz).trans f1
                              have p2 := fun z : Bd W.heap.size W D => ((bt hb0 z.ok).cell (p := ⟨b1, o1 + j * 3 + 1, none⟩) hsz).trans f2
                              have p3 := fun z : Bd W.heap.size W D => ((bt hb0 z.ok).cell (p := ⟨b1, o1 + k * 3 + 1, none⟩) hsz).trans f3
                              repeat (first | (apply wpLQ_skip rfl; simp only [Act.put, List.setIfInBounds_toArray, List.set_cons_succ, List.set_cons_zero]) | (apply wpLQ_pin rfl rfl; intro K hK; go_big_quiet_op; (first | go_big_quiet_on | fail); apply And.intro rfl))
                              apply wpLQ_nil (by simp)
                              intro V2 hbq _
                              have HV2 := Lib.hid (bt HV1.out (bt hb0 hbq))
                              clear p1 p2 p3 hn' hD hbq hb0 f1 f2 f3 hsz
                              go_wp2_with fail
                              go_roundw
                              case rel => exact ⟨j + 1, by omega, by go_num, by rw [HAT.out]; simp [HKEY.out, HK4.out], HV2.out⟩
                              case measure => simp [intOf]; omega
                          · as_aux_lemma =>
                              have hkj : (y.kind : Int) % 4 = 1 := by omega
                              have HK4 := Lib.hid h4
                              have HKEY := Lib.hid hkey
                              clear h4 hkey
                              go_wp2_with fail
                              refine wp_region_parts (by kernel_rfl) (by kernel_rfl) ?_
                              have hb0 : Below wr.heap.size wr wr.drew := (Below.refl _ _).drew
                              have hbx := HB5.out.trans (HBW.out.mono HB5.out.size)
                              have hsz : b1 < wr.heap.size := Nat.lt_of_lt_of_le l1 hbx.size
                              have f1 := (hbx.cell (p := ⟨b1, o1 + j * 3, none⟩) l1).trans g1
                              have f2 := (hbx.cell (p := ⟨b1, o1 + j * 3 + 1, none⟩) l1).trans g2
                              have f3 := (hbx.cell (p := ⟨b1, o1 + k * 3 + 1, none⟩) l1).trans g3
                              clear hbx
                              generalize wr.drew = W at *
                              apply regL_lq W.heap.size
                              intro D hD hn'
                              have p1 := fun z : Bd W.heap.size W D => ((bt hb0 z.ok).cell (p := ⟨b1, o1 + j * 3, none⟩) hsz).trans f1
                              have p2 := fun z : Bd W.heap.size W D => ((bt hb0 z.ok).cell (p := ⟨b1, o1 + j * 3 + 1, none⟩) hsz).trans f2
                              have p3 := fun z : Bd W.heap.size W D => ((bt hb0 z.ok).cell (p := ⟨b1, o1 + k * 3 + 1, none⟩) hsz).trans f3
                              repeat (first | (apply wpLQ_skip rfl; simp only [Act.put, List.setIfInBounds_toArray, List.set_cons_succ, List.set_cons_zero]) | (apply wpLQ_pin rfl rfl; intro K hK; go_big_quiet_op; (first | go_big_quiet_on | fail); apply And.intro rfl))
                              apply wpLQ_nil (by simp)
                              intro V1 hbq _
                              have HV1 := Lib.hid (bt HBW.out (bt hb0 hbq))
                              clear p1 p2 p3 hn' hD hbq hb0 f1 f2 f3 hsz
                              go_wp2_with fail
                              refine wp_region_parts (by kernel_rfl) (by kernel_rfl) ?_
                              have hb0 : Below V1.heap.size V1 V1.drew := (Below.refl _ _).drew
                              have hbx := HB5.out.trans (HV1.out.mono HB5.out.size)
                              have hsz : b1 < V1.heap.size := Nat.lt_of_lt_of_le l1 hbx.size
                              have f1 := (hbx.cell (p := ⟨b1, o1 + j * 3, none⟩) l1).trans g1
                              have f2 := (hbx.cell (p := ⟨b1, o1 + j * 3 + 1, none⟩) l1).trans g2
                              have f3 := (hbx.cell (p := ⟨b1, o1 + k * 3 + 1, none⟩) l1).trans g3
                              clear hbx
                              generalize V1.drew = W at *
                              apply regL_lq W.heap.size
                              intro D hD hn'
                              have p1 := fun z : Bd W.heap.size W D => ((bt hb0 z.ok).cell (p := ⟨b1, o1 + j * 3, none⟩) hsz).trans f1
                              have p2 := fun z : Bd W.heap.size W D => ((bt hb0 z.ok).cell (p := ⟨b1, o1 + j * 3 + 1, none⟩) hsz).trans f2
                              have p3 := fun z : Bd W.heap.size W D => ((bt hb0 z.ok).cell (p := ⟨b1, o1 + k * 3 + 1, none⟩) hsz).trans f3
                              repeat (first | (apply wpLQ_skip rfl; simp only [Act.put, List.setIfInBounds_toArray, List.set_cons_succ, List.set_cons_zero]) | (apply wpLQ_pin rfl rfl; intro K hK; go_big_quiet_op; (first | go_big_quiet_on | fail); apply And.intro rfl))
                              apply wpLQ_nil (by simp)
                              intro V2 hbq _
                              have HV2 := Lib.hid (bt HV1.out (bt hb0 hbq))
                              clear p1 p2 p3 hn' hD hbq hb0 f1 f2 f3 hsz
                              go_wp2_with fail
                              go_roundw
                              case rel => exact ⟨j + 1, by omega, by go_num, by rw [HAT.out]; simp [HKEY.out, HK4.out], HV2.out⟩
                              case measure => simp [intOf]; omega
                          · as_aux_lemma =>
                              have hkj : (y.kind : Int) % 4 = 2 := by omega
                              have HK4 := Lib.hid h4
                              have HKEY := Lib.hid hkey
                              clear h4 hkey
                              go_wp2_with fail
                              refine wp_region_parts (by kernel_rfl) (by kernel_rfl) ?_
                              have hb0 : Below wr.heap.size wr wr.drew := (Below.refl _ _).drew
                              have hbx := HB5.out.trans (HBW.out.mono HB5.out.size)
                              have hsz : b1 < wr.heap.size := Nat.lt_of_lt_of_le l1 hbx.size
                              have f1 := (hbx.cell (p := ⟨b1, o1 + j * 3, none⟩) l1).trans g1
                              have f2 := (hbx.cell (p := ⟨b1, o1 + j * 3 + 1, none⟩) l1).trans g2
                              have f3 := (hbx.cell (p := ⟨b1, o1 + k * 3 + 1, none⟩) l1).trans g3
                              clear hbx
                              generalize wr.drew = W at *
                              apply regL_lq W.heap.size
                              intro D hD hn'
                              have p1 := fun z : Bd W.heap.size W D => ((bt hb0 z.ok).cell (p := ⟨b1, o1 + j * 3, none⟩) hsz).trans f1
                              have p2 := fun z : Bd W.heap.size W D => ((bt hb0 z.ok).cell (p := ⟨b1, o1 + j * 3 + 1, none⟩) hsz).trans f2
                              have p3 := fun z : Bd W.heap.size W D => ((bt hb0 z.ok).cell (p := ⟨b1, o1 + k * 3 + 1, none⟩) hsz).trans f3
                              repeat (first | (apply wpLQ_skip rfl; simp only [Act.put, List.setIfInBounds_toArray, List.set_cons_succ, List.set_cons_zero]) | (apply wpLQ_pin rfl rfl; intro K hK; go_big_quiet_op; (first | go_big_quiet_on | fail); apply And.intro rfl))
                              apply wpLQ_nil (by simp)
                              intro V1 hbq _
                              have HV1 := Lib.hid (bt HBW.out (bt hb0 hbq))
                              clear p1 p2 p3 hn' hD hbq hb0 f1 f2 f3 hsz
                              go_wp2_with fail
                              refine wp_region_parts (by kernel_rfl) (by kernel_rfl) ?_
                              have hb0 : Below V1.heap.size V1 V1.drew := (Below.refl _ _).drew
                              have hbx := HB5.out.trans (HV1.out.mono HB5.out.size)
                              have hsz : b1 < V1.heap.size := Nat.lt_of_lt_of_le l1 hbx.size
                              have f1 := (hbx.cell (p := ⟨b1, o1 + j * 3, none⟩) l1).trans g1
                              have f2 := (hbx.cell (p := ⟨b1, o1 + j * 3 + 1, none⟩) l1).trans g2
                              have f3 := (hbx.cell (p := ⟨b1, o1 + k * 3 + 1, none⟩) l1).trans g3
                              clear hbx
                              generalize V1.drew = W at *
                              apply regL_lq W.heap.size
                              intro D hD hn'
                              have p1 := fun z : Bd W.heap.size W D => ((bt hb0 z.ok).cell (p := ⟨b1, o1 + j * 3, none⟩) hsz).trans f1
                              have p2 := fun z : Bd W.heap.size W D => ((bt hb0 z.ok).cell (p := ⟨b1, o1 + j * 3 + 1, none⟩) hsz).trans f2
                              have p3 := fun z : Bd W.heap.size W D => ((bt hb0 z.ok).cell (p := ⟨b1, o1 + k * 3 + 1, none⟩) hsz).trans f3
                              repeat (first | (apply wpLQ_skip rfl; simp only [Act.put, List.setIfInBounds_toArray, List.set_cons_succ, List.set_cons_zero]) | (apply wpLQ_pin rfl rfl; intro K hK; go_big_quiet_op; (first | go_big_quiet_on | fail); apply And.intro rfl))
                              apply wpLQ_nil (by simp)
                              intro V2 hbq _
                              have HV2 := Lib.hid (bt HV1.out (bt hb0 hbq))
                              clear p1 p2 p3 hn' hD hbq hb0 f1 f2 f3 hsz
                              go_wp2_with fail
                              go_roundw
                              case rel => exact ⟨j + 1, by omega, by go_num, by rw [HAT.out]; simp [HKEY.out, HK4.out], HV2.out⟩
                              case measure => simp [intOf]; omega
                          · as_aux_lemma =>
                              have hkj : (y.kind : Int) % 4 = 3 := by omega
                              have HK4 := Lib.hid h4
                              have HKEY := Lib.hid hkey
                              clear h4 hkey
                              go_wp2_with fail
                              refine wp_region_parts (by kernel_rfl) (by kernel_rfl) ?_
                              have hb0 : Below wr.heap.size wr wr.drew := (Below.refl _ _).drew
                              have hbx := HB5.out.trans (HBW.out.mono HB5.out.size)
                              have hsz : b1 < wr.heap.size := Nat.lt_of_lt_of_le l1 hbx.size
                              have f1 := (hbx.cell (p := ⟨b1, o1 + j * 3, none⟩) l1).trans g1
                              have f2 := (hbx.cell (p := ⟨b1, o1 + j * 3 + 1, none⟩) l1).trans g2
                              have f3 := (hbx.cell (p := ⟨b1, o1 + k * 3 + 1, none⟩) l1).trans g3
                              clear hbx
                              generalize wr.drew = W at *
                              apply regL_lq W.heap.size
                              intro D hD hn'
                              have p1 := fun z : Bd W.heap.size W D => ((bt hb0 z.ok).cell (p := ⟨b1, o1 + j * 3, none⟩) hsz).trans f1
                              have p2 := fun z : Bd W.heap.size W D => ((bt hb0 z.ok).cell (p := ⟨b1, o1 + j * 3 + 1, none⟩) hsz).trans f2
                              have p3 := fun z : Bd W.heap.size W D => ((bt hb0 z.ok).cell (p := ⟨b1, o1 + k * 3 + 1, none⟩) hsz).trans f3
                              repeat (first | (apply wpLQ_skip rfl; simp only [Act.put, List.setIfInBounds_toArray, List.set_cons_succ, List.set_cons_zero]) | (apply wpLQ_pin rfl rfl; intro K hK; go_big_quiet_op; (first | go_big_quiet_on | fail); apply And.intro rfl))
                              apply wpLQ_nil (by simp)
                              intro V1 hbq _
                              have HV1 := Lib.hid (bt HBW.out (bt hb0 hbq))
                              clear p1 p2 p3 hn' hD hbq hb0 f1 f2 f3 hsz
                              go_wp2_with fail
                              refine wp_region_parts (by kernel_rfl) (by kernel_rfl) ?_
                              have hb0 : Below V1.heap.size V1 V1.drew := (Below.refl _ _).drew
                              have hbx := HB5.out.trans (HV1.out.mono HB5.out.size)
                              have hsz : b1 < V1.heap.size := Nat.lt_of_lt_of_le l1 hbx.size
                              have f1 := (hbx.cell (p := ⟨b1, o1 + j * 3, none⟩) l1).trans g1
                              have f2 := (hbx.cell (p := ⟨b1, o1 + j * 3 + 1, none⟩) l1).trans g2
                              have f3 := (hbx.cell (p := ⟨b1, o1 + k * 3 + 1, none⟩) l1).trans g3
                              clear hbx
                              generalize V1.drew = W at *
                              apply regL_lq W.heap.size
                              intro D hD hn'
                              have p1 := fun z : Bd W.heap.size W D => ((bt hb0 z.ok).cell (p := ⟨b1, o1 + j * 3, none⟩) hsz).trans f1
                              have p2 := fun z : Bd W.heap.size W D => ((bt hb0 z.ok).cell (p := ⟨b1, o1 + j * 3 + 1, none⟩) hsz).trans f2
                              have p3 := fun z : Bd W.heap.size W D => ((bt hb0 z.ok).cell (p := ⟨b1, o1 + k * 3 + 1, none⟩) hsz).trans f3
                              repeat (first | (apply wpLQ_skip rfl; simp only [Act.put, List.setIfInBounds_toArray, List.set_cons_succ, List.set_cons_zero]) | (apply wpLQ_pin rfl rfl; intro K hK; go_big_quiet_op; (first | go_big_quiet_on | fail); apply And.intro rfl))
                              apply wpLQ_nil (by simp)
                              intro V2 hbq _
                              have HV2 := Lib.hid (bt HV1.out (bt hb0 hbq))
                              clear p1 p2 p3 hn' hD hbq hb0 f1 f2 f3 hsz
                              go_wp2_with fail
                              go_roundw
                              case rel => exact ⟨j + 1, by omega, by go_num, by rw [HAT.out]; simp [HKEY.out, HK4.out], HV2.out⟩
                              case measure => simp [intOf]; omega
                        · have hkb : (y.key == x.key) = false := by simpa using hkey
                          have HKEY := Lib.hid hkey
                          clear hkey
                          as_aux_lemma =>
                            go_wp2_with fail
                            refine wp_region_parts (by kernel_rfl) (by kernel_rfl) ?_
                            have hb0 : Below wr.heap.size wr wr.drew := (Below.refl _ _).drew
                            have hbx := HB5.out.trans (HBW.out.mono HB5.out.size)
                            have hsz : b1 < wr.heap.size := Nat.lt_of_lt_of_le l1 hbx.size
                            have f1 := (hbx.cell (p := ⟨b1, o1 + j * 3, none⟩) l1).trans g1
                            have f2 := (hbx.cell (p := ⟨b1, o1 + j * 3 + 1, none⟩) l1).trans g2
                            have f3 := (hbx.cell (p := ⟨b1, o1 + k * 3 + 1, none⟩) l1).trans g3
                            clear hbx
                            generalize wr.drew = W at *
                            apply regL_lq W.heap.size
                            intro D hD hn'
                            have p1 := fun z : Bd W.heap.size W D => ((bt hb0 z.ok).cell (p := ⟨b1, o1 + j * 3, none⟩) hsz).trans f1
                            have p2 := fun z : Bd W.heap.size W D => ((bt hb0 z.ok).cell (p := ⟨b1, o1 + j * 3 + 1, none⟩) hsz).trans f2
                            have p3 := fun z : Bd W.heap.size W D => ((bt hb0 z.ok).cell (p := ⟨b1, o1 + k * 3 + 1, none⟩) hsz).trans f3
                            repeat (first | (apply wpLQ_skip rfl; simp only [Act.put, List.setIfInBounds_toArray, List.set_cons_succ, List.set_cons_zero]) | (apply wpLQ_pin rfl rfl; intro K hK; go_big_quiet_op; (first | go_big_quiet_on | fail); apply And.intro rfl))
                            apply wpLQ_nil (by simp)
                            intro V1 hbq _
                            have HV1 := Lib.hid (bt HBW.out (bt hb0 hbq))
                            clear p1 p2 p3 hn' hD hbq hb0 f1 f2 f3 hsz
                            go_wp2_with fail
                            refine wp_region_parts (by kernel_rfl) (by kernel_rfl) ?_
                            have hb0 : Below V1.heap.size V1 V1.drew := (Below.refl _ _).drew
                            have hbx := HB5.out.trans (HV1.out.mono HB5.out.size)
                            have hsz : b1 < V1.heap.size := Nat.lt_of_lt_of_le l1 hbx.size
                            have f1 := (hbx.cell (p := ⟨b1, o1 + j * 3, none⟩) l1).trans g1
                            have f2 := (hbx.cell (p := ⟨b1, o1 + j * 3 + 1, none⟩) l1).trans g2
                            have f3 := (hbx.cell (p := ⟨b1, o1 + k * 3 + 1, none⟩) l1).trans g3
                            clear hbx
                            generalize V1.drew = W at *
                            apply regL_lq W.heap.size
                            intro D hD hn'
                            have p1 := fun z : Bd W.heap.size W D => ((bt hb0 z.ok).cell (p := ⟨b1, o1 + j * 3, none⟩) hsz).trans f1
                            have p2 := fun z : Bd W.heap.size W D => ((bt hb0 z.ok).cell (p := ⟨b1, o1 + j * 3 + 1, none⟩) hsz).trans f2
                            have p3 := fun z : Bd W.heap.size W D => ((bt hb0 z.ok).cell (p := ⟨b1, o1 + k * 3 + 1, none⟩) hsz).trans f3
                            repeat (first | (apply wpLQ_skip rfl; simp only [Act.put, List.setIfInBounds_toArray, List.set_cons_succ, List.set_cons_zero]) | (apply wpLQ_pin rfl rfl; intro K hK; go_big_quiet_op; (first | go_big_quiet_on | fail); apply And.intro rfl))
                            apply wpLQ_nil (by simp)
                            intro V2 hbq _
                            have HV2 := Lib.hid (bt HV1.out (bt hb0 hbq))
                            clear p1 p2 p3 hn' hD hbq hb0 f1 f2 f3 hsz
                            go_wp2_with fail
                            go_roundw
                            case rel => exact ⟨j + 1, by omega, by go_num, by rw [HAT.out]; simp [HKEY.out], HV2.out⟩
                            case measure => simp [intOf]; omega
                      · obtain rfl : j = k := by omega
                        obtain ⟨av, hav⟩ : ∃ av, av = atOf l x.key j := ⟨_, rfl⟩
                        rw [← hav]
                        clear hav
                        go_wp2_with fail
                        refine wp_region_parts (by kernel_rfl) (by kernel_rfl) ?_
                        have hb0 : Below wr.heap.size wr wr.drew := (Below.refl _ _).drew
                        generalize wr.drew = W at *
                        apply regL_lq W.heap.size
                        intro D hD hn'
                        repeat (first | (apply wpLQ_skip rfl; simp only [Act.put, List.setIfInBounds_toArray, List.set_cons_succ, List.set_cons_zero]) | (apply wpLQ_pin rfl rfl; intro K hK; go_big_quiet_op; (first | go_big_quiet_on | fail); apply And.intro rfl))
                        apply wpLQ_nil (by simp)
                        intro V1 hbq _
                        have HV1 := Lib.hid (bt HBW.out (bt hb0 hbq))
                        clear hn' hD hbq hb0
                        go_wp2_with fail
                        go_meet
                        exact ⟨_, HP5.out.next HV1.out, (HEV.out.get x.key).congr (valOf_get HX.out HPU.out), (getP_room _ _).trans HRM.out, HB5.out.trans (HV1.out.mono HB5.out.size)⟩
                | some c =>
                  as_aux_lemma =>
                    have HVAL := Lib.hid (HEV.out.look hl)
                    obtain ⟨C, hC⟩ : ∃ C, C = blk c := ⟨_, rfl⟩
                    rw [show getV p x.key = .tuple #[.agg C.toArray, .int .i64 0] from by unfold getV; rw [hl, hC]] at hget
                    have HC := Lib.hid hC
                    have HC1 : Hid (OneC C) := Lib.hid (by rw [hC]; exact blk_one c)
                    obtain ⟨Z, hZ⟩ : ∃ Z, Z = blk 0 := ⟨_, rfl⟩
                    have z30 : ∀ w, (zeroValue 30).run Try.prog w = .ok (.agg Z.toArray) w := by intro w; rw [hZ]; exact zero30 w
                    have HI : Hid ((Try.prog.info? 30).map (·.size) = some C.toArray.size) := Lib.hid (by rw [info30]; simp [HC1.out.1])
                    have HO : Hid (Z.toArray.size = C.toArray.size) := Lib.hid (by rw [hZ]; simp [HC1.out.1, (blk_one 0).1])
                    have HGET := Lib.hid hget
                    clear hget hC hZ hl
                    go_wp2_with fail
                    refine HGET.out.mono ?_
                    rintro e w4 ⟨rfl, hp4, hb4⟩
                    have HP4 := Lib.hid hp4
                    have HB4 := Lib.hid (HB.out.trans hb4)
                    have HD := Lib.hid (RowAt.new w4 30 Z)
                    have HD5' := Lib.hid ((RowAt.new w4 30 Z).setRow (l' := C))
                    have hb5 : Below w4.heap.size w4 ((w4.alloc (.cells Z.toArray 30)).setRow w4.heap.size C.toArray) := ((Below.refl _ _).alloc (Nat.le_refl _) _).trans (below_setRow (Nat.le_refl _))
                    have HP5 := Lib.hid (HP4.out.next hb5)
                    have HB5 := Lib.hid (HB4.out.trans (hb5.mono HB4.out.size))
                    clear hp4 hb4 hb5 d1 d2 d3
                    go_wp2_with (refine wpList_store_row rfl 30 (.tmp 9) (.tmp 85) rfl w4.heap.size C.toArray rfl rfl 30 Z.toArray HD.out HI.out HO.out HC1.out.2 ?_)
                    generalize (w4.alloc (.cells Z.toArray 30)).setRow w4.heap.size C.toArray = w5 at *
                    obtain ⟨b9, hb9⟩ : ∃ b, b = w4.heap.size := ⟨_, rfl⟩
                    have HD5 : Hid (RowAt w5 b9 30 C) := Lib.hid (by rw [hb9]; exact HD5'.out)
                    rw [← hb9]
                    clear hb9 HD5' HD HI HO z30 HP4 HB4
                    go_loopw [11, 12] (fun at_ i wz => GInv w5 l x.key k at_ i wz) (fun _ i _ => k - (intOf i).toNat)
                    case atStart => exact ⟨0, by omega, rfl, rfl, Below.refl _ _⟩
                    case round =>
                      obtain ⟨j, hj, rfl, rfl, hbw⟩ := hrel
                      have HBW := Lib.hid hbw
                      clear hbw
                      by_cases hlj : j < k
                      · obtain ⟨y, hy⟩ : ∃ y, l[j]? = some y := ⟨l[j], List.getElem?_eq_getElem _⟩
                        obtain ⟨g1, g2, _⟩ := HCS.out j y hy
                        obtain ⟨_, g3, _⟩ := HCS.out k x HX.out
                        obtain ⟨hyk, _, hyl, hyh⟩ := HS.out.2.1 y (List.mem_of_getElem? hy)
                        have HAT : Hid (atOf l x.key (j + 1) = if y.key = x.key ∧ y.kind % 4 = 2 then -1 else if y.key = x.key ∧ (y.kind % 4 = 0 ∨ y.kind % 4 = 3) then (j : Int) else atOf l x.key j) := Lib.hid (by rw [atOf, hy])
                        obtain ⟨av, hav⟩ : ∃ av, av = atOf l x.key j := ⟨_, rfl⟩
                        rw [← hav] at HAT ⊢
                        clear hav hy
                        by_cases hkey : y.key = x.key
                        · rw [hkey] at g2
                          have h4 : y.kind % 4 = 0 ∨ y.kind % 4 = 1 ∨ y.kind % 4 = 2 ∨ y.kind % 4 = 3 := by omega
                          rcases h4 with h4 | h4 | h4 | h4
                          · as_aux_lemma =>
                              have hkj : (y.kind : Int) % 4 = 0 := by omega
                              have HK4 := Lib.hid h4
                              have HKEY := Lib.hid hkey
                              clear h4 hkey
                              go_wp2_with fail
                              refine wp_region_parts (by kernel_rfl) (by kernel_rfl) ?_
                              have hb0 : Below wr.heap.size wr wr.drew := (Below.refl _ _).drew
                              have hbx := HB5.out.trans (HBW.out.mono HB5.out.size)
                              have hsz : b1 < wr.heap.size := Nat.lt_of_lt_of_le l1 hbx.size
                              have f1 := (hbx.cell (p := ⟨b1, o1 + j * 3, none⟩) l1).trans g1
                              have f2 := (hbx.cell (p := ⟨b1, o1 + j * 3 + 1, none⟩) l1).trans g2
                              have f3 := (hbx.cell (p := ⟨b1, o1 + k * 3 + 1, none⟩) l1).trans g3
                              clear hbx
                              generalize wr.drew = W at *
                              apply regL_lq W.heap.size
                              intro D hD hn'
                              have p1 := fun z : Bd W.heap.size W D => ((bt hb0 z.ok).cell (p := ⟨b1, o1 + j * 3, none⟩) hsz).trans f1
                              have p2 := fun z : Bd W.heap.size W D => ((bt hb0 z.ok).cell (p := ⟨b1, o1 + j * 3 + 1, none⟩) hsz).trans f2
                              have p3 := fun z : Bd W.heap.size W D => ((bt hb0 z.ok).cell (p := ⟨b1, o1 + k * 3 + 1, none⟩) hsz).trans f3
                              repeat (first | (apply wpLQ_skip rfl; simp only [Act.put, List.setIfInBounds_toArray, List.set_cons_succ, List.set_cons_zero]) | (apply wpLQ_pin rfl rfl; intro K hK; go_big_quiet_op; (first | go_big_quiet_on | fail); apply And.intro rfl))
                              apply wpLQ_nil (by simp)
                              intro V1 hbq _
                              have HV1 := Lib.hid (bt HBW.out (bt hb0 hbq))
                              clear p1 p2 p3 hn' hD hbq hb0 f1 f2 f3 hsz
                              go_wp2_with fail
                              refine wp_region_parts (by kernel_rfl) (by kernel_rfl) ?_
                              have hb0 : Below V1.heap.size V1 V1.drew := (Below.refl _ _).drew
                              have hbx := HB5.out.trans (HV1.out.mono HB5.out.size)
                              have hsz : b1 < V1.heap.size := Nat.lt_of_lt_of_le l1 hbx.size
                              have f1 := (hbx.cell (p := ⟨b1, o1 + j * 3, none⟩) l1).trans g1
                              have f2 := (hbx.cell (p := ⟨b1, o1 + j * 3 + 1, none⟩) l1).trans g2
                              have f3 := (hbx.cell (p := ⟨b1, o1 + k * 3 + 1, none⟩) l1).trans g3
                              clear hbx
                              generalize V1.drew = W at *
                              apply regL_lq W.heap.size
                              intro D hD hn'
                              have p1 := fun z : Bd W.heap.size W D => ((bt hb0 z.ok).cell (p := ⟨b1, o1 + j * 3, none⟩) hsz).trans f1
                              have p2 := fun z : Bd W.heap.size W D => ((bt hb0 z.ok).cell (p := ⟨b1, o1 + j * 3 + 1, none⟩) hsz).trans f2
                              have p3 := fun z : Bd W.heap.size W D => ((bt hb0 z.ok).cell (p := ⟨b1, o1 + k * 3 + 1, none⟩) hsz).trans f3
                              repeat (first | (apply wpLQ_skip rfl; simp only [Act.put, List.setIfInBounds_toArray, List.set_cons_succ, List.set_cons_zero]) | (apply wpLQ_pin rfl rfl; intro K hK; go_big_quiet_op; (first | go_big_quiet_on | fail); apply And.intro rfl))
                              apply wpLQ_nil (by simp)
                              intro V2 hbq _
                              have HV2 := Lib.hid (bt HV1.out (bt hb0 hbq))
                              clear p1 p2 p3 hn' hD hbq hb0 f1 f2 f3 hsz
                              go_wp2_with fail
                              go_roundw
                              case rel => exact ⟨j + 1, by omega, by go_num, by rw [HAT.out]; simp [HKEY.out, HK4.out], HV2.out⟩
                              case measure => simp [intOf]; omega
                          · as_aux_lemma =>
                              have hkj : (y.kind : Int) % 4 = 1 := by omega
                              have HK4 := Lib.hid h4
                              have HKEY := Lib.hid hkey
                              clear h4 hkey
                              go_wp2_with fail
                              refine wp_region_parts (by kernel_rfl) (by kernel_rfl) ?_
                              have hb0 : Below wr.heap.size wr wr.drew := (Below.refl _ _).drew
                              have hbx := HB5.out.trans (HBW.out.mono HB5.out.size)
                              have hsz : b1 < wr.heap.size := Nat.lt_of_lt_of_le l1 hbx.size
                              have f1 := (hbx.cell (p := ⟨b1, o1 + j * 3, none⟩) l1).trans g1
                              have f2 := (hbx.cell (p := ⟨b1, o1 + j * 3 + 1, none⟩) l1).trans g2
                              have f3 := (hbx.cell (p := ⟨b1, o1 + k * 3 + 1, none⟩) l1).trans g3
                              clear hbx
                              generalize wr.drew = W at *
                              apply regL_lq W.heap.size
                              intro D hD hn'
                              have p1 := fun z : Bd W.heap.size W D => ((bt hb0 z.ok).cell (p := ⟨b1, o1 + j * 3, none⟩) hsz).trans f1
                              have p2 := fun z : Bd W.heap.size W D => ((bt hb0 z.ok).cell (p := ⟨b1, o1 + j * 3 + 1, none⟩) hsz).trans f2
                              have p3 := fun z : Bd W.heap.size W D => ((bt hb0 z.ok).cell (p := ⟨b1, o1 + k * 3 + 1, none⟩) hsz).trans f3
                              repeat (first | (apply wpLQ_skip rfl; simp only [Act.put, List.setIfInBounds_toArray, List.set_cons_succ, List.set_cons_zero]) | (apply wpLQ_pin rfl rfl; intro K hK; go_big_quiet_op; (first | go_big_quiet_on | fail); apply And.intro rfl))
                              apply wpLQ_nil (by simp)
                              intro V1 hbq _
                              have HV1 := Lib.hid (bt HBW.out (bt hb0 hbq))
                              clear p1 p2 p3 hn' hD hbq hb0 f1 f2 f3 hsz
                              go_wp2_with fail
                              refine wp_region_parts (by kernel_rfl) (by kernel_rfl) ?_
                              have hb0 : Below V1.heap.size V1 V1.drew := (Below.refl _ _).drew
                              have hbx := HB5.out.trans (HV1.out.mono HB5.out.size)
                              have hsz : b1 < V1.heap.size := Nat.lt_of_lt_of_le l1 hbx.size
                              have f1 := (hbx.cell (p := ⟨b1, o1 + j * 3, none⟩) l1).trans g1
                              have f2 := (hbx.cell (p := ⟨b1, o1 + j * 3 + 1, none⟩) l1).trans g2
                              have f3 := (hbx.cell (p := ⟨b1, o1 + k * 3 + 1, none⟩) l1).trans g3
                              clear hbx
                              generalize V1.drew = W at *
                              apply regL_lq W.heap.size
                              intro D hD hn'
                              have p1 := fun z : Bd W.heap.size W D => ((bt hb0 z.ok).cell (p := ⟨b1, o1 + j * 3, none⟩) hsz).trans f1
                              have p2 := fun z : Bd W.heap.size W D => ((bt hb0 z.ok).cell (p := ⟨b1, o1 + j * 3 + 1, none⟩) hsz).trans f2
                              have p3 := fun z : Bd W.heap.size W D => ((bt hb0 z.ok).cell (p := ⟨b1, o1 + k * 3 + 1, none⟩) hsz).trans f3
                              repeat (first | (apply wpLQ_skip rfl; simp only [Act.put, List.setIfInBounds_toArray, List.set_cons_succ, List.set_cons_zero]) | (apply wpLQ_pin rfl rfl; intro K hK; go_big_quiet_op; (first | go_big_quiet_on | fail); apply And.intro rfl))
                              apply wpLQ_nil (by simp)
                              intro V2 hbq _
                              have HV2 := Lib.hid (bt HV1.out (bt hb0 hbq))
                              clear p1 p2 p3 hn' hD hbq hb0 f1 f2 f3 hsz
                              go_wp2_with fail
                              go_roundw
                              case rel => exact ⟨j + 1, by omega, by go_num, by rw [HAT.out]; simp [HKEY.out, HK4.out], HV2.out⟩
                              case measure => simp [intOf]; omega
                          · as_aux_lemma =>
                              have hkj : (y.kind : Int) % 4 = 2 := by omega
                              have HK4 := Lib.hid h4
                              have HKEY := Lib.hid hkey
                              clear h4 hkey
                              go_wp2_with fail
                              refine wp_region_parts (by kernel_rfl) (by kernel_rfl) ?_
                              have hb0 : Below wr.heap.size wr wr.drew := (Below.refl _ _).drew
                              have hbx := HB5.out.trans (HBW.out.mono HB5.out.size)
                              have hsz : b1 < wr.heap.size := Nat.lt_of_lt_of_le l1 hbx.size
                              have f1 := (hbx.cell (p := ⟨b1, o1 + j * 3, none⟩) l1).trans g1
                              have f2 := (hbx.cell (p := ⟨b1, o1 + j * 3 + 1, none⟩) l1).trans g2
                              have f3 := (hbx.cell (p := ⟨b1, o1 + k * 3 + 1, none⟩) l1).trans g3
                              clear hbx
                              generalize wr.drew = W at *
                              apply regL_lq W.heap.size
                              intro D hD hn'
                              have p1 := fun z : Bd W.heap.size W D => ((bt hb0 z.ok).cell (p := ⟨b1, o1 + j * 3, none⟩) hsz).trans f1
                              have p2 := fun z : Bd W.heap.size W D => ((bt hb0 z.ok).cell (p := ⟨b1, o1 + j * 3 + 1, none⟩) hsz).trans f2
                              have p3 := fun z : Bd W.heap.size W D => ((bt hb0 z.ok).cell (p := ⟨b1, o1 + k * 3 + 1, none⟩) hsz).trans f3
                              repeat (first | (apply wpLQ_skip rfl; simp only [Act.put, List.setIfInBounds_toArray, List.set_cons_succ, List.set_cons_zero]) | (apply wpLQ_pin rfl rfl; intro K hK; go_big_quiet_op; (first | go_big_quiet_on | fail); apply And.intro rfl))
                              apply wpLQ_nil (by simp)
                              intro V1 hbq _
                              have HV1 := Lib.hid (bt HBW.out (bt hb0 hbq))
                              clear p1 p2 p3 hn' hD hbq hb0 f1 f2 f3 hsz
                              go_wp2_with fail
                              refine wp_region_parts (by kernel_rfl) (by kernel_rfl) ?_
                              have hb0 : Below V1.heap.size V1 V1.drew := (Below.refl _ _).drew
                              have hbx := HB5.out.trans (HV1.out.mono HB5.out.size)
                              have hsz : b1 < V1.heap.size := Nat.lt_of_lt_of_le l1 hbx.size
                              have f1 := (hbx.cell (p := ⟨b1, o1 + j * 3, none⟩) l1).trans g1
                              have f2 := (hbx.cell (p := ⟨b1, o1 + j * 3 + 1, none⟩) l1).trans g2
                              have f3 := (hbx.cell (p := ⟨b1, o1 + k * 3 + 1, none⟩) l1).trans g3
                              clear hbx
                              generalize V1.drew = W at *
                              apply regL_lq W.heap.size
                              intro D hD hn'
                              have p1 := fun z : Bd W.heap.size W D => ((bt hb0 z.ok).cell (p := ⟨b1, o1 + j * 3, none⟩) hsz).trans f1
                              have p2 := fun z : Bd W.heap.size W D => ((bt hb0 z.ok).cell (p := ⟨b1, o1 + j * 3 + 1, none⟩) hsz).trans f2
                              have p3 := fun z : Bd W.heap.size W D => ((bt hb0 z.ok).cell (p := ⟨b1, o1 + k * 3 + 1, none⟩) hsz).trans f3
                              repeat (first | (apply wpLQ_skip rfl; simp only [Act.put, List.setIfInBounds_toArray, List.set_cons_succ, List.set_cons_zero]) | (apply wpLQ_pin rfl rfl; intro K hK; go_big_quiet_op; (first | go_big_quiet_on | fail); apply And.intro rfl))
                              apply wpLQ_nil (by simp)
                              intro V2 hbq _
                              have HV2 := Lib.hid (bt HV1.out (bt hb0 hbq))
                              clear p1 p2 p3 hn' hD hbq hb0 f1 f2 f3 hsz
                              go_wp2_with fail
                              go_roundw
                              case rel => exact ⟨j + 1, by omega, by go_num, by rw [HAT.out]; simp [HKEY.out, HK4.out], HV2.out⟩
                              case measure => simp [intOf]; omega
                          · as_aux_lemma =>
                              have hkj : (y.kind : Int) % 4 = 3 := by omega
                              have HK4 := Lib.hid h4
                              have HKEY := Lib.hid hkey
                              clear h4 hkey
                              go_wp2_with fail
                              refine wp_region_parts (by kernel_rfl) (by kernel_rfl) ?_
                              have hb0 : Below wr.heap.size wr wr.drew := (Below.refl _ _).drew
                              have hbx := HB5.out.trans (HBW.out.mono HB5.out.size)
                              have hsz : b1 < wr.heap.size := Nat.lt_of_lt_of_le l1 hbx.size
                              have f1 := (hbx.cell (p := ⟨b1, o1 + j * 3, none⟩) l1).trans g1
                              have f2 := (hbx.cell (p := ⟨b1, o1 + j * 3 + 1, none⟩) l1).trans g2
                              have f3 := (hbx.cell (p := ⟨b1, o1 + k * 3 + 1, none⟩) l1).trans g3
                              clear hbx
                              generalize wr.drew = W at *
                              apply regL_lq W.heap.size
                              intro D hD hn'
                              have p1 := fun z : Bd W.heap.size W D => ((bt hb0 z.ok).cell (p := ⟨b1, o1 + j * 3, none⟩) hsz).trans f1
                              have p2 := fun z : Bd W.heap.size W D => ((bt hb0 z.ok).cell (p := ⟨b1, o1 + j * 3 + 1, none⟩) hsz).trans f2
                              have p3 := fun z : Bd W.heap.size W D => ((bt hb0 z.ok).cell (p := ⟨b1, o1 + k * 3 + 1, none⟩) hsz).trans f3
                              repeat (first | (apply wpLQ_skip rfl; simp only [Act.put, List.setIfInBounds_toArray, List.set_cons_succ, List.set_cons_zero]) | (apply wpLQ_pin rfl rfl; intro K hK; go_big_quiet_op; (first | go_big_quiet_on | fail); apply And.intro rfl))
                              apply wpLQ_nil (by simp)
                              intro V1 hbq _
                              have HV1 := Lib.hid (bt HBW.out (bt hb0 hbq))
                              clear p1 p2 p3 hn' hD hbq hb0 f1 f2 f3 hsz
                              go_wp2_with fail
                              refine wp_region_parts (by kernel_rfl) (by kernel_rfl) ?_
                              have hb0 : Below V1.heap.size V1 V1.drew := (Below.refl _ _).drew
                              have hbx := HB5.out.trans (HV1.out.mono HB5.out.size)
                              have hsz : b1 < V1.heap.size := Nat.lt_of_lt_of_le l1 hbx.size
                              have f1 := (hbx.cell (p := ⟨b1, o1 + j * 3, none⟩) l1).trans g1
                              have f2 := (hbx.cell (p := ⟨b1, o1 + j * 3 + 1, none⟩) l1).trans g2
                              have f3 := (hbx.cell (p := ⟨b1, o1 + k * 3 + 1, none⟩) l1).trans g3
                              clear hbx
                              generalize V1.drew = W at *
                              apply regL_lq W.heap.size
                              intro D hD hn'
                              have p1 := fun z : Bd W.heap.size W D => ((bt hb0 z.ok).cell (p := ⟨b1, o1 + j * 3, none⟩) hsz).trans f1
                              have p2 := fun z : Bd W.heap.size W D => ((bt hb0 z.ok).cell (p := ⟨b1, o1 + j * 3 + 1, none⟩) hsz).trans f2
                              have p3 := fun z : Bd W.heap.size W D => ((bt hb0 z.ok).cell (p := ⟨b1, o1 + k * 3 + 1, none⟩) hsz).trans f3
                              repeat (first | (apply wpLQ_skip rfl; simp only [Act.put, List.setIfInBounds_toArray, List.set_cons_succ, List.set_cons_zero]) | (apply wpLQ_pin rfl rfl; intro K hK; go_big_quiet_op; (first | go_big_quiet_on | fail); apply And.intro rfl))
                              apply wpLQ_nil (by simp)
                              intro V2 hbq _
                              have HV2 := Lib.hid (bt HV1.out (bt hb0 hbq))
                              clear p1 p2 p3 hn' hD hbq hb0 f1 f2 f3 hsz
                              go_wp2_with fail
                              go_roundw
                              case rel => exact ⟨j + 1, by omega, by go_num, by rw [HAT.out]; simp [HKEY.out, HK4.out], HV2.out⟩
                              case measure => simp [intOf]; omega
                        · have hkb : (y.key == x.key) = false := by simpa using hkey
                          have HKEY := Lib.hid hkey
                          clear hkey
                          as_aux_lemma =>
                            go_wp2_with fail
                            refine wp_region_parts (by kernel_rfl) (by kernel_rfl) ?_
                            have hb0 : Below wr.heap.size wr wr.drew := (Below.refl _ _).drew
                            have hbx := HB5.out.trans (HBW.out.mono HB5.out.size)
                            have hsz : b1 < wr.heap.size := Nat.lt_of_lt_of_le l1 hbx.size
                            have f1 := (hbx.cell (p := ⟨b1, o1 + j * 3, none⟩) l1).trans g1
                            have f2 := (hbx.cell (p := ⟨b1, o1 + j * 3 + 1, none⟩) l1).trans g2
                            have f3 := (hbx.cell (p := ⟨b1, o1 + k * 3 + 1, none⟩) l1).trans g3
                            clear hbx
                            generalize wr.drew = W at *
                            apply regL_lq W.heap.size
                            intro D hD hn'
                            have p1 := fun z : Bd W.heap.size W D => ((bt hb0 z.ok).cell (p := ⟨b1, o1 + j * 3, none⟩) hsz).trans f1
                            have p2 := fun z : Bd W.heap.size W D => ((bt hb0 z.ok).cell (p := ⟨b1, o1 + j * 3 + 1, none⟩) hsz).trans f2
                            have p3 := fun z : Bd W.heap.size W D => ((bt hb0 z.ok).cell (p := ⟨b1, o1 + k * 3 + 1, none⟩) hsz).trans f3
                            repeat (first | (apply wpLQ_skip rfl; simp only [Act.put, List.setIfInBounds_toArray, List.set_cons_succ, List.set_cons_zero]) | (apply wpLQ_pin rfl rfl; intro K hK; go_big_quiet_op; (first | go_big_quiet_on | fail); apply And.intro rfl))
                            apply wpLQ_nil (by simp)
                            intro V1 hbq _
                            have HV1 := Lib.hid (bt HBW.out (bt hb0 hbq))
                            clear p1 p2 p3 hn' hD hbq hb0 f1 f2 f3 hsz
                            go_wp2_with fail
                            refine wp_region_parts (by kernel_rfl) (by kernel_rfl) ?_
                            have hb0 : Below V1.heap.size V1 V1.drew := (Below.refl _ _).drew
                            have hbx := HB5.out.trans (HV1.out.mono HB5.out.size)
                            have hsz : b1 < V1.heap.size := Nat.lt_of_lt_of_le l1 hbx.size
                            have f1 := (hbx.cell (p := ⟨b1, o1 + j * 3, none⟩) l1).trans g1
                            have f2 := (hbx.cell (p := ⟨b1, o1 + j * 3 + 1, none⟩) l1).trans g2
                            have f3 := (hbx.cell (p := ⟨b1, o1 + k * 3 + 1, none⟩) l1).trans g3
                            clear hbx
                            generalize V1.drew = W at *
                            apply regL_lq W.heap.size
                            intro D hD hn'
                            have p1 := fun z : Bd W.heap.size W D => ((bt hb0 z.ok).cell (p := ⟨b1, o1 + j * 3, none⟩) hsz).trans f1
                            have p2 := fun z : Bd W.heap.size W D => ((bt hb0 z.ok).cell (p := ⟨b1, o1 + j * 3 + 1, none⟩) hsz).trans f2
                            have p3 := fun z : Bd W.heap.size W D => ((bt hb0 z.ok).cell (p := ⟨b1, o1 + k * 3 + 1, none⟩) hsz).trans f3
                            repeat (first | (apply wpLQ_skip rfl; simp only [Act.put, List.setIfInBounds_toArray, List.set_cons_succ, List.set_cons_zero]) | (apply wpLQ_pin rfl rfl; intro K hK; go_big_quiet_op; (first | go_big_quiet_on | fail); apply And.intro rfl))
                            apply wpLQ_nil (by simp)
                            intro V2 hbq _
                            have HV2 := Lib.hid (bt HV1.out (bt hb0 hbq))
                            clear p1 p2 p3 hn' hD hbq hb0 f1 f2 f3 hsz
                            go_wp2_with fail
                            go_roundw
                            case rel => exact ⟨j + 1, by omega, by go_num, by rw [HAT.out]; simp [HKEY.out], HV2.out⟩
                            case measure => simp [intOf]; omega
                      · obtain rfl : j = k := by omega
                        have hin := atOf_in l x.key j (by omega)
                        have hv := HVAL.out
                        unfold valOf at hv
                        obtain ⟨m, hm'⟩ : ∃ m : Nat, atOf l x.key j = (m : Int) := ⟨(atOf l x.key j).toNat, by
                          by_cases hneg : atOf l x.key j < 0
                          · rw [if_pos hneg] at hv; cases hv
                          · omega⟩
                        rw [hm', if_neg (by omega), Int.toNat_natCast] at hv
                        rw [hm'] at hin
                        rw [hm']
                        obtain ⟨s, hs', hsc⟩ := Option.map_eq_some_iff.1 hv
                        obtain ⟨_, _, g4⟩ := HCS.out m s hs'
                        rw [hsc] at g4
                        obtain ⟨hm1, hm2⟩ := hin
                        clear hv hm' hs' hsc
                        have hmn : ¬ (m : Int) < 0 := by omega
                        have hmd : decide ((m : Int) < 0) = false := by simp [hmn]
                        have hm0 : 0 ≤ (m : Int) := by omega
                        have hmk : (m : Int) < n := by omega
                        have hmk' : m < n := by omega
                        have hbx := HB5.out.trans (HBW.out.mono HB5.out.size)
                        have hsz : b1 < wr.heap.size := Nat.lt_of_lt_of_le l1 hbx.size
                        have f4 := (hbx.cell (p := ⟨b1, o1 + m * 3 + 2, none⟩) l1).trans g4
                        have hrow := HD5.out.next HBW.out
                        clear hbx
                        have HBC : Hid (Try.prog.built 30 [(0, .int .u8 c)] = some C.toArray) := Lib.hid (by rw [HC.out]; exact built30c c)
                        have HEQ : Hid (∀ w, (Op.equalIn 10000 30 (.agg C.toArray) (.agg C.toArray)).run Try.prog w = .ok true w) := Lib.hid (by intro w; rw [HC.out, eq30]; simp)
                        go_wp2_with fail
                        refine wp_region_parts (by kernel_rfl) (by kernel_rfl) ?_
                        have hb0 : Below wr.heap.size wr wr.drew := (Below.refl _ _).drew
                        generalize wr.drew = W at *
                        apply regL_lq W.heap.size
                        intro D hD hn'
                        have p4 := fun z : Bd W.heap.size W D => ((bt hb0 z.ok).cell (p := ⟨b1, o1 + m * 3 + 2, none⟩) hsz).trans f4
                        have HR9 : Hid (∀ z : Bd W.heap.size W D, RowAt z.val b9 30 C) := Lib.hid fun z => hrow.next (bt hb0 z.ok)
                        repeat (apply wpLQ_pin rfl rfl; intro K hK; go_big_quiet_op; (first | go_big_quiet_on | fail); apply And.intro rfl)
                        apply wpLQ_at (.agg C.toArray) (Nat.le_refl _) hD rfl
                        · intro z _
                          exact runs_loadR (x := .tmp 9) rfl rfl (load30 (HR9.out z) HC1.out.1) ⟨rfl, Below.refl _ _⟩
                        simp only [Act.put, List.setIfInBounds_toArray, List.set_cons_succ, List.set_cons_zero]
                        repeat (first | (apply wpLQ_skip rfl; simp only [Act.put, List.setIfInBounds_toArray, List.set_cons_succ, List.set_cons_zero]) | (apply wpLQ_pin rfl rfl; intro K hK; go_big_quiet_op; (first | go_big_quiet_on | fail); apply And.intro rfl))
                        apply wpLQ_at (.agg C.toArray) (Nat.le_refl _) hD rfl
                        · intro z _
                          refine runs_buildR (t := 30) (parts := #[(0, .tmp 153)]) (v := C) rfl [(0, .int .u8 c)] ?hl ?hbb ⟨rfl, Below.refl _ _⟩
                          case hbb => with_reducible exact HBC.out
                          case hl => simp only [List.map_toArray, List.map_cons, List.map_nil]; rfl
                        simp only [Act.put, List.setIfInBounds_toArray, List.set_cons_succ, List.set_cons_zero]
                        apply wpLQ_at (.bool false) (Nat.le_refl _) hD rfl
                        · intro z _
                          exact runs_eqlR (x := .tmp 148) (y := .tmp 154) rfl rfl rfl (guard30 _ _ _ _ _ _) (neq30 (HEQ.out _)) ⟨rfl, Below.refl _ _⟩
                        simp only [Act.put, List.setIfInBounds_toArray, List.set_cons_succ, List.set_cons_zero]
                        repeat (first | (apply wpLQ_skip rfl; simp only [Act.put, List.setIfInBounds_toArray, List.set_cons_succ, List.set_cons_zero]) | (apply wpLQ_pin rfl rfl; intro K hK; go_big_quiet_op; (first | go_big_quiet_on | fail); apply And.intro rfl))
                        apply wpLQ_nil (by simp)
                        intro V1 hbq _
                        have HV1 := Lib.hid (bt HBW.out (bt hb0 hbq))
                        clear p4 hn' hD hbq hb0 f4 hsz hrow HR9
                        go_wp2_with fail
                        go_meet
                        exact ⟨_, HP5.out.next HV1.out, (HEV.out.get x.key).congr (valOf_get HX.out HPU.out), (getP_room _ _).trans HRM.out, HB5.out.trans (HV1.out.mono HB5.out.size)⟩
              · have hd2 : kd % 4 = 2 := by omega
                have HPU : Hid (x.kind % 4 = 2) := Lib.hid (by have := HKD.out; omega)
                clear hput hput3 hg
                as_aux_lemma =>
                  go_wp2_with fail
                  by_cases hw : whereP p x.key = none
                  · refine (drop_pa_none wr cb p HP.out x.key hw).mono ?_
                    rintro e V ⟨rfl, rfl⟩
                    have HEVn0 : Hid (EV p (valOf l (k + 1))) := Lib.hid ((HEV.out.not x.key hw).congr (valOf_drop HX.out HPU.out))
                    go_wp2_with fail
                    go_meet
                    exact ⟨_, HP.out, HEVn0.out, HRM.out, HB.out⟩
                  · refine (drop_pa_some wr cb p HP.out (fun k hk => Nat.lt_of_lt_of_le hk HB.out.size) x.key hw).mono ?_
                    rintro e V ⟨rfl, hp2, hk2⟩
                    have HPn0 := Lib.hid hp2
                    have HBn := Lib.hid (HB.out.trans (Kp.below hk2 HB.out.size))
                    have HEVn0 : Hid (EV (rmP p x.key) (valOf l (k + 1))) := Lib.hid ((HEV.out.rm x.key).congr (valOf_drop HX.out HPU.out))
                    clear hp2 hk2
                    go_wp2_with fail
                    go_meet
                    exact ⟨_, HPn0.out, HEVn0.out, HRM.out, HBn.out⟩
        case rest =>
          as_aux_lemma =>
            obtain ⟨q, hq1, hq2, hq3, hq4⟩ := hcut
            have HPn := Lib.hid hq1
            have HEVn := Lib.hid hq2
            have HRMn := Lib.hid hq3
            have HBn := Lib.hid hq4
            clear hq1 hq2 hq3 hq4
            go_wp2_with fail
            refine (rows_pa wc cb q HPn.out).mono ?_
            rintro e w3 ⟨v, rfl, ⟨t1, t2, g1, g2, rfl, i1, i2, i3, i4⟩, hb⟩
            have HB3 := Lib.hid (HBn.out.trans (hb.mono HBn.out.size))
            have HP3 := Lib.hid (HPn.out.next hb)
            have hnk := HPn.out.nk
            have hwf := HPn.out.wf
            have h1 := hwf.h1; have h2 := hwf.h2; have h3 := hwf.h3; have h4 := hwf.tg
            rw [HRMn.out] at h1 h2 h3 h4
            obtain ⟨KA, hKA⟩ : ∃ K, K = ksP q.a := ⟨_, rfl⟩
            obtain ⟨KB, hKB⟩ : ∃ K, K = ksP q.b := ⟨_, rfl⟩
            obtain ⟨KC, hKC⟩ : ∃ K, K = ksP q.c := ⟨_, rfl⟩
            obtain ⟨KD, hKD⟩ : ∃ K, K = ksP q.d := ⟨_, rfl⟩
            rw [show q.a.length = KA.length from by simp [hKA, ksP]] at h1 h2 h3
            rw [show q.b.length = KB.length from by simp [hKB, ksP]] at h1 h3
            rw [show q.c.length = KC.length from by simp [hKC, ksP]] at h2 h3
            rw [show q.d.length = KD.length from by simp [hKD, ksP]] at h3
            unfold NK at hnk
            rw [← hKA, ← hKB, ← hKC, ← hKD] at hnk
            rw [← hKA] at i1
            rw [← hKB] at i2
            rw [← hKC] at i3
            rw [← hKD] at i4
            clear hKA hKB hKC hKD hb hwf
            have J1 := Lib.hid i1
            have J2 := Lib.hid i2
            have J3 := Lib.hid i3
            have J4 := Lib.hid i4
            obtain ⟨A1, c1, rfl, _, _, _⟩ := i1
            obtain ⟨A2, c2, rfl, _, _, _⟩ := i2
            obtain ⟨A3, c3, rfl, _, _, _⟩ := i3
            obtain ⟨A4, c4, rfl, _, _, _⟩ := i4
            obtain ⟨v1, x1, hr1, ho1, hb1⟩ := app_list (L := []) (World.ownsRow_lit (base := w3.heap.size) (e := 3) (size := 1) w3 #[] 0 (Nat.le_refl _) (by unfold maxLen; omega) rfl) (al1 w3 _) J1.out (by simp; omega)
            obtain ⟨v2, x2, hr2, ho2, hb2⟩ := app_list ho1 hb1 J2.out (by simp; omega)
            obtain ⟨v3, x3, hr3, ho3, hb3⟩ := app_list ho2 hb2 J3.out (by simp; omega)
            obtain ⟨v4, x4, hr4, ho4, hb4⟩ := app_list ho3 hb3 J4.out (by simp; omega)
            have HR1 := Lib.hid hr1
            have HR2 := Lib.hid hr2
            have HR3 := Lib.hid hr3
            have HR4 := Lib.hid hr4
            obtain ⟨A5, c5, rfl, s5⟩ := SliceAt.owned ho4
            have HS5 := Lib.hid s5
            have HP4 := Lib.hid (HP3.out.next hb4)
            have HB4 := Lib.hid (HB3.out.trans (hb4.mono HB3.out.size))
            obtain ⟨ALL, hALL⟩ : ∃ K, K = [] ++ KA ++ KB ++ KC ++ KD := ⟨_, rfl⟩
            have hNA : ALL.Nodup := by rw [hALL]; simpa using hnk
            have hLA : ALL.length = KA.length + KB.length + KC.length + KD.length := by rw [hALL]; simp; omega
            rw [← hALL] at HS5 HR4
            obtain ⟨M, hM⟩ : ∃ M, M = ALL.length := ⟨_, rfl⟩
            rw [← hM] at HS5 HR4 hLA
            have HNA := Lib.hid hNA
            have HMA := Lib.hid hM
            obtain ⟨la, hla⟩ : ∃ x, x = KA.length := ⟨_, rfl⟩
            obtain ⟨lb, hlb⟩ : ∃ x, x = KB.length := ⟨_, rfl⟩
            obtain ⟨lc, hlc⟩ : ∃ x, x = KC.length := ⟨_, rfl⟩
            rw [← hla] at h1 h2 h3 hLA HR1
            rw [← hlb] at h1 h3 hLA HR2
            rw [← hlc] at h2 h3 hLA HR3
            rw [← hla, ← hlb, ← hlc]
            have e1 : la + lb ≤ N := by omega
            have e2 : la + lc ≤ N := by omega
            have e3 : M ≤ 2 * N := by omega
            obtain ⟨tg, htg⟩ : ∃ t, t = q.target := ⟨_, rfl⟩
            rw [← htg] at h4
            obtain ⟨h5, h6⟩ := h4
            have HTG := Lib.hid htg
            clear hr1 hr2 hr3 hr4 ho1 ho2 ho3 ho4 hb1 hb2 hb3 hb4 s5 hALL hNA hM hla hlb hlc h1 h2 h3 htg hnk J1 J2 J3 J4 hLA
            go_wp2_with (at_builtin; first | refine wpList_app rfl (.tmp 173) (.tmp 174) 33 33 rfl rfl HR1.out rfl rfl ?_ | refine wpList_app rfl (.tmp 175) (.tmp 176) 33 33 rfl rfl HR2.out rfl rfl ?_ | refine wpList_app rfl (.tmp 177) (.tmp 178) 33 33 rfl rfl HR3.out rfl rfl ?_ | refine wpList_app rfl (.tmp 179) (.tmp 180) 33 33 rfl rfl HR4.out rfl rfl ?_)
            refine (target_pa _ cb q HP4.out).mono ?_
            rintro e w6 ⟨rfl, rfl⟩
            rw [← HTG.out]
            go_wp2_with fail
            refine (target_pa _ cb q HP4.out).mono ?_
            rintro e w6 ⟨rfl, rfl⟩
            rw [← HTG.out]
            go_wp2_with fail
            clear HR1 HR2 HR3 HR4 HP3 HB3
            go_loopw [18] (fun i wz => XInv x4 M i wz) (fun i _ => M - (intOf i).toNat)
            case atStart => exact ⟨0, by omega, rfl, Below.refl _ _⟩
            case round =>
              obtain ⟨xx, hxx, rfl, hbx⟩ := hrel
              have HBX := Lib.hid hbx
              clear hbx
              by_cases hlx : xx < M
              · go_wp2_with fail
                go_loopw [19] (fun i wy => XInv x4 xx i wy) (fun i _ => xx - (intOf i).toNat)
                case atStart => exact ⟨0, by omega, rfl, HBX.out⟩
                case round =>
                  obtain ⟨yy, hyy, rfl, hby⟩ := hrel
                  have HBY := Lib.hid hby
                  clear hby
                  by_cases hly : yy < xx
                  · obtain ⟨b5, o5, rfl, l5, q5⟩ := HS5.out.get xx hlx
                    obtain ⟨b6, o6, he6, l6, q6⟩ := HS5.out.get yy (by omega)
                    cases he6
                    have HML := HMA.out
                    have hne : ALL[xx]'(by omega) ≠ ALL[yy]'(by omega) := fun he => List.pairwise_iff_getElem.1 HNA.out yy xx (by omega) (by omega) hly he.symm
                    rw [List.getElem?_map, List.getElem?_eq_getElem (by omega)] at q5 q6
                    obtain ⟨y5, hy5⟩ : ∃ y, y = ALL[xx]'(by omega) := ⟨_, rfl⟩
                    obtain ⟨y6, hy6⟩ : ∃ y, y = ALL[yy]'(by omega) := ⟨_, rfl⟩
                    rw [← hy5] at q5 hne
                    rw [← hy6] at q6 hne
                    have d5 : wr.cell? ⟨b5, o5 + xx, none⟩ = some (.int .i64 y5) := (HBY.out.cell l5).trans q5
                    have d6 : wr.cell? ⟨b5, o5 + yy, none⟩ = some (.int .i64 y6) := (HBY.out.cell l5).trans q6
                    clear q5 q6 hy5 hy6 HML
                    have hd : (y5 == y6) = false := by simpa using hne
                    have hlb5 : b5 < wr.heap.size := Nat.lt_of_lt_of_le l5 HBY.out.size
                    clear hne
                    go_wp2_with fail
                    refine wp_region_parts (by kernel_rfl) (by kernel_rfl) ?_
                    have hb0 : Below wr.heap.size wr wr.drew := (Below.refl _ _).drew
                    generalize wr.drew = W at *
                    apply regL_lq W.heap.size
                    intro D hD hn'
                    have p5 := fun z : Bd W.heap.size W D => ((bt hb0 z.ok).cell (p := ⟨b5, o5 + xx, none⟩) hlb5).trans d5
                    have p6 := fun z : Bd W.heap.size W D => ((bt hb0 z.ok).cell (p := ⟨b5, o5 + yy, none⟩) hlb5).trans d6
                    repeat (apply wpLQ_pin rfl rfl; intro K hK; go_big_quiet_op; go_big_quiet_on; apply And.intro rfl)
                    apply wpLQ_nil (by simp)
                    intro W1 hb1 _
                    have HBZ := Lib.hid (bt HBY.out (bt hb0 hb1))
                    clear p5 p6 hn' hD hb1 hb0 d5 d6
                    go_wp2_with fail
                    go_roundw
                    case rel => exact ⟨yy + 1, by omega, by go_num, HBZ.out⟩
                    case measure => simp [intOf]; omega
                  · obtain rfl : yy = xx := by omega
                    go_wp2_with fail
                    go_roundw
                    case rel => exact ⟨yy + 1, by omega, by go_num, HBY.out⟩
                    case measure => simp [intOf]; omega
              · obtain rfl : xx = M := by omega
                go_wp2_with fail
                go_roundw
                case rel => exact ⟨k + 1, by omega, by go_num, ⟨q, HP4.out.next HBX.out, HEVn.out, HRMn.out⟩, HB4.out.trans (HBX.out.mono HB4.out.size)⟩
                case measure => simp [intOf]; omega
      · obtain rfl : k = n := by omega
        go_wp2
        go_ret
        exact ⟨rfl, HB.out⟩
  · go_wp2_with fail
    refine (works_any w1).mono ?_
    rintro e w3 ⟨rfl, hb⟩
    have HB3 := Lib.hid (bt HB1.out hb)
    clear hb
    go_wp2
    go_ret
    exact ⟨rfl, HB3.out⟩
end Go.Proofs.Ytefjpljjdjecjaa
