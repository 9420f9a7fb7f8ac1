/- The document's Who. -/
import Derived.Test.YtkcebbidmlnmmaaDoorXg
import Derived.IntWalk
namespace Go.Proofs.YtkcebbidmlnmmaaDoor
open Go.RowKit
def keysL (L : List Wr) : List Int := L.map (·.1)
/-- The document's row, as its objects are read. -/
theorem keys_at {w : World} {q : Nat} {L : List Wr} {S : Nat → Prop} (h : Xf w q L S) : ∃ lA lc, (∀ W, Below w.heap.size w W → W.cell? ⟨q, 0, none⟩ = some (.slice lA (keysL L).length lc)) ∧
    ∀ (k : Nat) (x : Int), (keysL L)[k]? = some x → ∃ lb, lA = some ⟨lb, 0, none⟩ ∧ lb < w.heap.size ∧ (k : Int) < (lc : Int) ∧ ∀ W, Below w.heap.size w W → W.cell? ⟨lb, k * 3, none⟩ = some (.int .i64 x) := by
  obtain ⟨⟨v, hr, ho, _⟩, _, _⟩ := h
  obtain ⟨A, c, rfl, hc1, hc2, hat⟩ := ox_shape ho
  have hl : (keysL L).length = L.length := by simp [keysL]
  refine ⟨A, c, fun W hW => ?_, fun k x hx => ?_⟩
  · rw [hl]
    exact (hr.next hW).cell 0
  · unfold keysL at hx
    rw [List.getElem?_map] at hx
    obtain ⟨p, hp, rfl⟩ := Option.map_eq_some_iff.1 hx
    obtain ⟨g, e, h1, h2, d1, _⟩ := hat k p hp
    exact ⟨g, e, h1, h2, fun W hW => (hW.cell h1).trans d1⟩
def SoI (w : World) (l : List Int) (v i : Value) (W : World) : Prop := ∃ k O, k ≤ l.length ∧ i = .int .i64 (k : Nat) ∧ OwnI w.heap.size O v W ∧ So2 O (l.take k) ∧ Below w.heap.size w W
def AtJ (W0 : World) (O : List Int) (x : Int) (i : Value) (W : World) : Prop := ∃ m : Nat, m ≤ O.length ∧ i = .int .i64 m ∧ (∀ j y, m ≤ j → O[j]? = some y → x < y) ∧ Below W0.heap.size W0 W
set_option maxRecDepth 20000 in
set_option maxHeartbeats 4000000 in
theorem rwho_any (w : World) (q : Nat) (L : List Wr) (S : Nat → Prop) (h : Xf w q L S) (hok : Ok L) :
    Calls Tryd.prog 34 #[.pointer (some ⟨q, 0, none⟩)] w fun e w' => ∃ O v, e = .returned v ∧ OwnI w.heap.size O v w' ∧ So2 O (keysL L) ∧ Below w.heap.size w w' := by
  obtain ⟨lA, lc, hq, hs⟩ := keys_at h
  have hl6 : (keysL L).length ≤ 70000 := by have := hok.len; simp [keysL]; omega
  have HS := Lib.hid hs
  have HQ := Lib.hid hq
  clear hs hq h hok
  generalize keysL L = l at *
  have cq := HQ.out w (Below.refl _ _)
  go_enter Tryd.func34, Tryd.ntmps34
  go_wp2_with fail
  go_loopw [3, 4] (fun v i wr => SoI w l v i wr) (fun _ i _ => l.length - (intOf i).toNat)
  case atStart => exact ⟨0, [], by omega, rfl, OwnI.nil _ _, ⟨List.Pairwise.nil, by simp⟩, Below.refl _ _⟩
  case round =>
    obtain ⟨k, O, hk, rfl, ho, hso, hb⟩ := hrel
    obtain ⟨W0, hW0⟩ : ∃ W0, W0 = wr := ⟨_, rfl⟩
    subst hW0
    obtain ⟨oA, oc, rfl⟩ := ho.shape
    have HO := Lib.hid ho
    have HSO := Lib.hid hso
    have HB := Lib.hid hb
    have c0 := HQ.out _ hb
    clear ho hso hb
    by_cases hlt : k < l.length
    · have hlt' : (k : Int) < (l.length : Int) := by omega
      have k0 : (0 : Int) ≤ (k : Int) := by omega
      obtain ⟨x, hx⟩ : ∃ x, l[k]? = some x := ⟨l[k], List.getElem?_eq_getElem _⟩
      obtain ⟨lb, rfl, hlb, hlc, hcel⟩ := HS.out k x hx
      have HLC := Lib.hid hcel
      have HTK : Hid (l.take (k + 1) = l.take k ++ [x]) := Lib.hid (by rw [List.take_add_one, hx]; rfl)
      have hOl : O.length ≤ 70000 := by have := HSO.out.len; rw [List.length_take] at this; omega
      clear hx hcel hlb
      go_wp2_with fail
      clear c0
      go_loopw [5] (fun i wy => AtJ W0 O x i wy) (fun i _ => (intOf i).toNat)
      case atStart => exact ⟨O.length, Nat.le_refl _, rfl, fun j y hj hy => by have := (List.getElem?_eq_some_iff.1 hy).1; omega, Below.refl _ _⟩
      case round =>
        obtain ⟨m, hm, rfl, hgt, hbm⟩ := hrel
        have HGT := Lib.hid hgt
        have HY := Lib.hid hbm
        clear hgt hbm
        by_cases hm0 : m = 0
        · have gm : decide ((m : Int) > 0) = false := by simp [hm0]
          have gm' : decide ((0 : Int) < (m : Int)) = false := by simp [hm0]
          have HM0 := Lib.hid hm0
          clear hm0
          obtain ⟨pp, hpp⟩ : ∃ pp : Int, pp = (m : Int) := ⟨_, rfl⟩
          rw [← hpp] at gm gm' ⊢
          have HPP := Lib.hid hpp
          clear hpp
          go_wp2_with fail
          refine wp_region_parts (by kernel_rfl) (by kernel_rfl) ?_
          have hb0 : Below wr.heap.size wr wr.drew := (Below.refl _ _).drew
          generalize wr.drew = V at *
          apply regL_lq V.heap.size
          intro D hD hn
          repeat (first | (apply wpLQ_skip rfl; simp only [Act.put, List.setIfInBounds_toArray, List.set_cons_succ, List.set_cons_zero]) | (apply wpLQ_pin rfl rfl; intro K hK; go_big_quiet_op; (first | go_big_quiet_on | fail); apply And.intro rfl))
          apply wpLQ_nil (by simp)
          intro W1 hb1 _
          have HW1 := Lib.hid (bt HY.out (bt hb0 hb1))
          clear  hn hD hb1 hb0
          go_wp2_with fail
          refine wp_region_parts (by kernel_rfl) (by kernel_rfl) ?_
          have hb0 : Below W1.heap.size W1 W1.drew := (Below.refl _ _).drew
          generalize W1.drew = V at *
          apply regL_lq V.heap.size
          intro D hD hn
          repeat (first | (apply wpLQ_skip rfl; simp only [Act.put, List.setIfInBounds_toArray, List.set_cons_succ, List.set_cons_zero]) | (apply wpLQ_pin rfl rfl; intro K hK; go_big_quiet_op; (first | go_big_quiet_on | fail); apply And.intro rfl))
          apply wpLQ_nil (by simp)
          intro W1b hb1 _
          have HW1b := Lib.hid (bt HW1.out (bt hb0 hb1))
          clear HW1
          have HW1 := HW1b
          clear HW1b
          clear  hn hD hb1 hb0
          have HOW := Lib.hid (HO.out.next HW1.out)
          have HBW := Lib.hid (bt HB.out HW1.out)
          have HSI : Hid (So2 (O.take m ++ [x] ++ O.drop m) (l.take (k + 1))) := Lib.hid (by
            rw [HTK.out]
            exact HSO.out.ins hm (fun j y hj _ => by have := HM0.out; omega) HGT.out)
          obtain ⟨A1, A2, c2, v1, W2, v2, W3, v3, W4, es1, es2, r1, r2, r3, o3, b2, b4⟩ := ins_run W1b w.heap.size oc O oA HOW.out m hm x hOl
          have HR1 := Lib.hid r1
          have HR2 := Lib.hid r2
          have HR3 := Lib.hid r3
          have HO4 := Lib.hid (o3.mono HBW.out.size)
          have HB4 := Lib.hid (bt HBW.out b4)
          have x2 : W2.cell? ⟨lb, k * 3, none⟩ = some (.int .i64 x) := HLC.out W2 (bt HBW.out b2)
          have x3 := HQ.out W2 (bt HBW.out b2)
          clear r1 r2 r3 o3 b2 b4
          rw [← HPP.out] at es1 es2
          go_wp2_with (first
            | (at_builtin; refine wpList_app rfl (.tmp 56) (.tmp 59) 51 51 rfl rfl HR1.out rfl rfl ?_)
            | (at_builtin; refine wpList_app rfl (.tmp 61) (.tmp 70) 51 51 rfl rfl HR2.out rfl rfl ?_)
            | (at_builtin; refine wpList_app rfl (.tmp 72) (.tmp 75) 51 51 rfl rfl HR3.out rfl rfl ?_))
          go_roundw
          case rel => exact ⟨k + 1, _, by omega, by go_num, HO4.out, HSI.out, HB4.out⟩
          case measure => simp [intOf]; omega
        · have gm : decide ((m : Int) > 0) = true := by simp; omega
          have gm' : decide ((0 : Int) < (m : Int)) = true := by simp; omega
          obtain ⟨p, rfl⟩ : ∃ p, m = p + 1 := ⟨m - 1, by omega⟩
          clear hm0
          obtain ⟨y, hy⟩ : ∃ y, O[p]? = some y := ⟨O[p]'(by omega), List.getElem?_eq_getElem _⟩
          obtain ⟨g, rfl, hg, hgl, hcell, _⟩ := HO.out.at p y hy
          have HYE := Lib.hid hy
          have HGL : Hid (g < W0.heap.size) := Lib.hid hgl
          have p0 : (0 : Int) ≤ (p : Int) := by omega
          have pl : (p : Int) < (O.length : Int) := by omega
          have ps : (((p + 1 : Nat) : Int) - 1) = (p : Int) := by omega
          have ps2 : IntKind.i64.wrap (((p + 1 : Nat) : Int) - 1) = (p : Int) := by rw [ps]; exact IntWalk.i64_in _ (by omega)
          have HOC : Hid (∀ W, Below W0.heap.size W0 W → W.cell? ⟨g, p, none⟩ = some (.int .i64 y)) := Lib.hid (fun W hW => (hW.cell HGL.out).trans hcell)
          clear hy hg hgl hcell
          obtain ⟨pp, hpp⟩ : ∃ pp : Int, pp = ((p + 1 : Nat) : Int) := ⟨_, rfl⟩
          rw [← hpp] at gm gm' ps ps2 ⊢
          have HPP := Lib.hid hpp
          clear hpp
          by_cases hyx : x < y
          · have gy : decide (y > x) = true := by simpa using hyx
            have gy' : decide (x < y) = true := by simpa using hyx
            have HYX := Lib.hid hyx
            clear hyx
            go_wp2_with fail
            refine wp_region_parts (by kernel_rfl) (by kernel_rfl) ?_
            have hb0 : Below wr.heap.size wr wr.drew := (Below.refl _ _).drew
            generalize wr.drew = V at *
            apply regL_lq V.heap.size
            intro D hD hn
            have q1 := fun z : Bd V.heap.size V D => HOC.out _ (bt HY.out (bt hb0 z.ok))
            have q2 := fun z : Bd V.heap.size V D => HLC.out _ (bt (bt HB.out HY.out) (bt hb0 z.ok))
            have q3 := fun z : Bd V.heap.size V D => HQ.out _ (bt (bt HB.out HY.out) (bt hb0 z.ok))
            repeat (first | (apply wpLQ_skip rfl; simp only [Act.put, List.setIfInBounds_toArray, List.set_cons_succ, List.set_cons_zero]) | (apply wpLQ_pin rfl rfl; intro K hK; go_big_quiet_op; (first | go_big_quiet_on | fail); apply And.intro rfl))
            apply wpLQ_nil (by simp)
            intro W1 hb1 _
            have HW1 := Lib.hid (bt HY.out (bt hb0 hb1))
            clear q1 q2 q3 hn hD hb1 hb0
            go_wp2_with fail
            go_roundw
            case rel => exact ⟨p, by omega, rfl, fun j z hj hz => by
              by_cases e : j = p
              · subst e
                rw [HYE.out] at hz
                cases hz
                exact HYX.out
              · exact HGT.out j z (by omega) hz, HW1.out⟩
            case measure => simp [intOf, HPP.out]
          · have gy : decide (y > x) = false := by simpa using hyx
            have gy' : decide (x < y) = false := by simpa using hyx
            by_cases hye : y = x
            · have ge : (y == x) = true := by simpa using hye
              have HIN : Hid (x ∈ O) := Lib.hid (hye ▸ List.mem_of_getElem? HYE.out)
              clear hyx hye
              go_wp2_with fail
              refine wp_region_parts (by kernel_rfl) (by kernel_rfl) ?_
              have hb0 : Below wr.heap.size wr wr.drew := (Below.refl _ _).drew
              generalize wr.drew = V at *
              apply regL_lq V.heap.size
              intro D hD hn
              have q1 := fun z : Bd V.heap.size V D => HOC.out _ (bt HY.out (bt hb0 z.ok))
              have q2 := fun z : Bd V.heap.size V D => HLC.out _ (bt (bt HB.out HY.out) (bt hb0 z.ok))
              have q3 := fun z : Bd V.heap.size V D => HQ.out _ (bt (bt HB.out HY.out) (bt hb0 z.ok))
              repeat (first | (apply wpLQ_skip rfl; simp only [Act.put, List.setIfInBounds_toArray, List.set_cons_succ, List.set_cons_zero]) | (apply wpLQ_pin rfl rfl; intro K hK; go_big_quiet_op; (first | go_big_quiet_on | fail); apply And.intro rfl))
              apply wpLQ_nil (by simp)
              intro W1 hb1 _
              have HW1 := Lib.hid (bt HY.out (bt hb0 hb1))
              clear q1 q2 q3 hn hD hb1 hb0
              go_wp2_with fail
              refine wp_region_parts (by kernel_rfl) (by kernel_rfl) ?_
              have hb0 : Below W1.heap.size W1 W1.drew := (Below.refl _ _).drew
              generalize W1.drew = V at *
              apply regL_lq V.heap.size
              intro D hD hn
              have q1 := fun z : Bd V.heap.size V D => HOC.out _ (bt HW1.out (bt hb0 z.ok))
              have q2 := fun z : Bd V.heap.size V D => HLC.out _ (bt (bt HB.out HW1.out) (bt hb0 z.ok))
              have q3 := fun z : Bd V.heap.size V D => HQ.out _ (bt (bt HB.out HW1.out) (bt hb0 z.ok))
              repeat (first | (apply wpLQ_skip rfl; simp only [Act.put, List.setIfInBounds_toArray, List.set_cons_succ, List.set_cons_zero]) | (apply wpLQ_pin rfl rfl; intro K hK; go_big_quiet_op; (first | go_big_quiet_on | fail); apply And.intro rfl))
              apply wpLQ_nil (by simp)
              intro W1b hb1 _
              have HW1b := Lib.hid (bt HW1.out (bt hb0 hb1))
              clear HW1
              have HW1 := HW1b
              clear HW1b
              clear q1 q2 q3 hn hD hb1 hb0
              go_wp2_with fail
              go_roundw
              case rel => exact ⟨k + 1, O, by omega, by go_num, HO.out.next HW1.out, by rw [HTK.out]; exact HSO.out.in_ HIN.out, bt HB.out HW1.out⟩
              case measure => simp [intOf]; omega
            · have ge : (y == x) = false := by simpa using hye
              have HLT : Hid (y < x) := Lib.hid (by omega)
              clear hyx hye
              go_wp2_with fail
              refine wp_region_parts (by kernel_rfl) (by kernel_rfl) ?_
              have hb0 : Below wr.heap.size wr wr.drew := (Below.refl _ _).drew
              generalize wr.drew = V at *
              apply regL_lq V.heap.size
              intro D hD hn
              have q1 := fun z : Bd V.heap.size V D => HOC.out _ (bt HY.out (bt hb0 z.ok))
              have q2 := fun z : Bd V.heap.size V D => HLC.out _ (bt (bt HB.out HY.out) (bt hb0 z.ok))
              have q3 := fun z : Bd V.heap.size V D => HQ.out _ (bt (bt HB.out HY.out) (bt hb0 z.ok))
              repeat (first | (apply wpLQ_skip rfl; simp only [Act.put, List.setIfInBounds_toArray, List.set_cons_succ, List.set_cons_zero]) | (apply wpLQ_pin rfl rfl; intro K hK; go_big_quiet_op; (first | go_big_quiet_on | fail); apply And.intro rfl))
              apply wpLQ_nil (by simp)
              intro W1 hb1 _
              have HW1 := Lib.hid (bt HY.out (bt hb0 hb1))
              clear q1 q2 q3 hn hD hb1 hb0
              go_wp2_with fail
              refine wp_region_parts (by kernel_rfl) (by kernel_rfl) ?_
              have hb0 : Below W1.heap.size W1 W1.drew := (Below.refl _ _).drew
              generalize W1.drew = V at *
              apply regL_lq V.heap.size
              intro D hD hn
              have q1 := fun z : Bd V.heap.size V D => HOC.out _ (bt HW1.out (bt hb0 z.ok))
              have q2 := fun z : Bd V.heap.size V D => HLC.out _ (bt (bt HB.out HW1.out) (bt hb0 z.ok))
              have q3 := fun z : Bd V.heap.size V D => HQ.out _ (bt (bt HB.out HW1.out) (bt hb0 z.ok))
              repeat (first | (apply wpLQ_skip rfl; simp only [Act.put, List.setIfInBounds_toArray, List.set_cons_succ, List.set_cons_zero]) | (apply wpLQ_pin rfl rfl; intro K hK; go_big_quiet_op; (first | go_big_quiet_on | fail); apply And.intro rfl))
              apply wpLQ_nil (by simp)
              intro W1b hb1 _
              have HW1b := Lib.hid (bt HW1.out (bt hb0 hb1))
              clear HW1
              have HW1 := HW1b
              clear HW1b
              clear q1 q2 q3 hn hD hb1 hb0
              have HOW := Lib.hid (HO.out.next HW1.out)
              have HBW := Lib.hid (bt HB.out HW1.out)
              have HSI : Hid (So2 (O.take (p + 1) ++ [x] ++ O.drop (p + 1)) (l.take (k + 1))) := Lib.hid (by
                rw [HTK.out]
                exact HSO.out.ins hm (fun j z hj hz => by
                    rcases Nat.lt_or_ge j p with e | e
                    · have := List.pairwise_iff_getElem.1 HSO.out.so j p (List.getElem?_eq_some_iff.1 hz).1 (List.getElem?_eq_some_iff.1 HYE.out).1 e
                      have e1 := (List.getElem?_eq_some_iff.1 hz).2
                      have e2 := (List.getElem?_eq_some_iff.1 HYE.out).2
                      have := HLT.out
                      omega
                    · obtain rfl : j = p := by omega
                      rw [HYE.out] at hz
                      cases hz
                      exact HLT.out) HGT.out)
              obtain ⟨A1, A2, c2, v1, W2, v2, W3, v3, W4, es1, es2, r1, r2, r3, o3, b2, b4⟩ := ins_run W1b w.heap.size oc O (some ⟨g, 0, none⟩) HOW.out (p + 1) hm x hOl
              have HR1 := Lib.hid r1
              have HR2 := Lib.hid r2
              have HR3 := Lib.hid r3
              have HO4 := Lib.hid (o3.mono HBW.out.size)
              have HB4 := Lib.hid (bt HBW.out b4)
              have x2 : W2.cell? ⟨lb, k * 3, none⟩ = some (.int .i64 x) := HLC.out W2 (bt HBW.out b2)
              have x3 := HQ.out W2 (bt HBW.out b2)
              clear r1 r2 r3 o3 b2 b4
              rw [← HPP.out] at es1 es2
              go_wp2_with (first
                | (at_builtin; refine wpList_app rfl (.tmp 56) (.tmp 59) 51 51 rfl rfl HR1.out rfl rfl ?_)
                | (at_builtin; refine wpList_app rfl (.tmp 61) (.tmp 70) 51 51 rfl rfl HR2.out rfl rfl ?_)
                | (at_builtin; refine wpList_app rfl (.tmp 72) (.tmp 75) 51 51 rfl rfl HR3.out rfl rfl ?_))
              go_roundw
              case rel => exact ⟨k + 1, _, by omega, by go_num, HO4.out, HSI.out, HB4.out⟩
              case measure => simp [intOf]; omega
    · obtain rfl : k = l.length := by omega
      have HE : Hid (So2 O l) := Lib.hid (by have := HSO.out; rwa [List.take_of_length_le (Nat.le_refl _)] at this)
      go_wp2_with fail
      all_goals refine bodyPost_ret (by simp [results, Tryd.results34, go_sem]; rfl) rfl ?_
      all_goals exact ⟨O, _, rfl, HO.out, HE.out, HB.out⟩
end Go.Proofs.YtkcebbidmlnmmaaDoor
