/- turns. -/
import Derived.Test.YtefjpljjdjecjaaXf
namespace Go.Proofs.Ytefjpljjdjecjaa
open Go.RowKit
theorem new_pb {B : Nat} (w : World) (hB : B ≤ w.heap.size) (c : Int) (h1 : 1 ≤ c) (h2 : c ≤ 1024) :
    Calls Try.prog 9 #[.int .i64 c] w fun e w' => ∃ cb, e = .returned (.tuple #[.pointer (some ⟨cb, 0, none⟩), .int .i64 0]) ∧ PB B w' cb (newPu c) ∧ Below w.heap.size w w' := by
  refine (new_pa w c h1 h2).mono ?_
  rintro e w' ⟨cb, rfl, hp, hb⟩
  exact ⟨cb, rfl, hp.mono fun k hk => Nat.lt_of_lt_of_le hk hB, hb⟩
theorem drop_true {B : Nat} (w : World) (cb : Nat) (p : Pu) (h : PB B w cb p) (hB : B ≤ w.heap.size) (key : Int) (hk : whereP p key ≠ none) (p' : Pu) (hp : rmP p key = p') :
    Calls Try.prog 16 #[.pointer (some ⟨cb, 0, none⟩), .int .i64 key] w fun e w' => e = .returned (.int .i64 0) ∧ PB B w' cb p' ∧ Below B w w' := by
  subst hp
  refine (drop_pa_some w cb p h (fun k hk => Nat.lt_of_lt_of_le hk hB) key hk).mono ?_
  rintro e w' ⟨rfl, hp, hk⟩
  exact ⟨rfl, hp, Kp.below hk hB⟩
set_option maxRecDepth 20000 in
set_option maxHeartbeats 16000000 in
theorem turns_any (w0 : World) : Calls Try.prog 22 #[] w0 fun e w' => e = .returned (.bool true) ∧ Below w0.heap.size w0 w' := by
  have HB0 : Hid (Below w0.heap.size w0 w0) := Lib.hid (Below.refl _ _)
  go_enter Try.func22, Try.ntmps22
  go_wp2_with fail
  refine (new_pb w0 HB0.out.size 3 (by decide) (by decide)).mono ?_
  rintro e w1 ⟨cb1, rfl, hp, hb⟩
  have HP1 := Lib.hid hp
  have HB1 := Lib.hid (HB0.out.trans (hb.mono HB0.out.size))
  clear hp hb
  go_wp2_with fail
  refine (puts_lit w1 cb1 _ HP1.out HB1.out.size [1, 2, 3] (by decide) (by decide) ⟨[(1, some 1), (2, some 2), (3, some 3)], [], [], [], 3, 0⟩ (by kernel_rfl)).mono ?_
  rintro e w2 ⟨rfl, hp, hb⟩
  have HP2 := Lib.hid (hp)
  have HB2 := Lib.hid (HB1.out.trans hb)
  clear hp hb
  go_wp2_with fail
  refine (gets_true w2 cb1 _ HP2.out HB2.out.size 1 (by decide) (by decide) (by kernel_rfl) ⟨[(2, some 2), (3, some 3)], [(1, some 1)], [], [], 3, 0⟩ (by kernel_rfl)).mono ?_
  rintro e w3 ⟨rfl, hp, hb⟩
  have HP3 := Lib.hid (hp)
  have HB3 := Lib.hid (HB2.out.trans hb)
  clear hp hb
  go_wp2_with fail
  refine (puts_lit w3 cb1 _ HP3.out HB3.out.size [4, 2, 3, 1] (by decide) (by decide) ⟨[], [(2, some 2), (3, some 3), (1, some 1)], [(4, none)], [], 3, 1⟩ (by kernel_rfl)).mono ?_
  rintro e w4 ⟨rfl, hp, hb⟩
  have HP4 := Lib.hid (hp)
  have HB4 := Lib.hid (HB3.out.trans hb)
  clear hp hb
  go_wp2_with fail
  refine (rows_true _ cb1 _ (HP4.out.next (al2 w4 _ _)) [] [2, 3, 1] [4] [] _ _ _ _ 1 0 0 0 0 (ints_nil 0 _) (ints_at ((RowAt.new w4 3 (([2, 3, 1] : List Int).map I64)).alloc _)) (ints_at (row2 w4 _ (([4] : List Int).map I64))) (ints_nil 0 _) ⟨by kernel_rfl, by kernel_rfl, by kernel_rfl, by kernel_rfl, by kernel_rfl⟩).mono ?_
  rintro e w5 ⟨rfl, hb⟩
  have HP5 := Lib.hid ((HP4.out.next (al2 w4 _ _)).next hb)
  have HB5 := Lib.hid (HB4.out.trans ((bt (al2 w4 _ _) hb).mono HB4.out.size))
  clear hb
  go_wp2_with fail
  refine (new_pb w5 HB5.out.size 4 (by decide) (by decide)).mono ?_
  rintro e w6 ⟨cb2, rfl, hp, hb⟩
  have HP6 := Lib.hid hp
  have HB6 := Lib.hid (HB5.out.trans (hb.mono HB5.out.size))
  clear hp hb
  go_wp2_with fail
  refine (puts_lit w6 cb2 _ HP6.out HB6.out.size [1, 2, 3, 4] (by decide) (by decide) ⟨[(1, some 1), (2, some 2), (3, some 3), (4, some 4)], [], [], [], 4, 0⟩ (by kernel_rfl)).mono ?_
  rintro e w7 ⟨rfl, hp, hb⟩
  have HP7 := Lib.hid (hp)
  have HB7 := Lib.hid (HB6.out.trans hb)
  clear hp hb
  go_wp2_with fail
  refine (gets_true w7 cb2 _ HP7.out HB7.out.size 1 (by decide) (by decide) (by kernel_rfl) ⟨[(2, some 2), (3, some 3), (4, some 4)], [(1, some 1)], [], [], 4, 0⟩ (by kernel_rfl)).mono ?_
  rintro e w8 ⟨rfl, hp, hb⟩
  have HP8 := Lib.hid (hp)
  have HB8 := Lib.hid (HB7.out.trans hb)
  clear hp hb
  go_wp2_with fail
  refine (gets_true w8 cb2 _ HP8.out HB8.out.size 2 (by decide) (by decide) (by kernel_rfl) ⟨[(3, some 3), (4, some 4)], [(1, some 1), (2, some 2)], [], [], 4, 0⟩ (by kernel_rfl)).mono ?_
  rintro e w9 ⟨rfl, hp, hb⟩
  have HP9 := Lib.hid (hp)
  have HB9 := Lib.hid (HB8.out.trans hb)
  clear hp hb
  go_wp2_with fail
  refine (gets_true w9 cb2 _ HP9.out HB9.out.size 3 (by decide) (by decide) (by kernel_rfl) ⟨[(4, some 4)], [(1, some 1), (2, some 2), (3, some 3)], [], [], 4, 0⟩ (by kernel_rfl)).mono ?_
  rintro e w10 ⟨rfl, hp, hb⟩
  have HP10 := Lib.hid (hp)
  have HB10 := Lib.hid (HB9.out.trans hb)
  clear hp hb
  go_wp2_with fail
  refine (puts_lit w10 cb2 _ HP10.out HB10.out.size [5, 4, 6, 7] (by decide) (by decide) ⟨[(6, some 6), (7, some 7)], [(3, some 3), (4, some 4)], [(5, none)], [(1, none), (2, none)], 4, 1⟩ (by kernel_rfl)).mono ?_
  rintro e w11 ⟨rfl, hp, hb⟩
  have HP11 := Lib.hid (hp)
  have HB11 := Lib.hid (HB10.out.trans hb)
  clear hp hb
  go_wp2_with fail
  refine (rows_true _ cb2 _ (HP11.out.next (al4 w11 _ _ _ _)) [6, 7] [3, 4] [5] [1, 2] _ _ _ _ 1 0 0 0 0 (ints_at ((((RowAt.new w11 3 (([6, 7] : List Int).map I64)).alloc _).alloc _).alloc _)) (ints_at (((row2 w11 _ (([3, 4] : List Int).map I64)).alloc _).alloc _)) (ints_at ((row3 w11 _ _ (([5] : List Int).map I64)).alloc _)) (ints_at (row4 w11 _ _ _ (([1, 2] : List Int).map I64))) ⟨by kernel_rfl, by kernel_rfl, by kernel_rfl, by kernel_rfl, by kernel_rfl⟩).mono ?_
  rintro e w12 ⟨rfl, hb⟩
  have HP12 := Lib.hid ((HP11.out.next (al4 w11 _ _ _ _)).next hb)
  have HB12 := Lib.hid (HB11.out.trans ((bt (al4 w11 _ _ _ _) hb).mono HB11.out.size))
  clear hb
  go_wp2_with fail
  refine (puts_lit w12 cb2 _ HP12.out HB12.out.size [5] (by decide) (by decide) ⟨[(6, some 6), (7, some 7)], [(4, some 4), (5, some 5)], [], [(1, none), (2, none), (3, none)], 4, 3⟩ (by kernel_rfl)).mono ?_
  rintro e w13 ⟨rfl, hp, hb⟩
  have HP13 := Lib.hid (hp)
  have HB13 := Lib.hid (HB12.out.trans hb)
  clear hp hb
  go_wp2_with fail
  refine (rows_true _ cb2 _ (HP13.out.next (al3 w13 _ _ _)) [6, 7] [4, 5] [] [1, 2, 3] _ _ _ _ 3 0 0 0 0 (ints_at (((RowAt.new w13 3 (([6, 7] : List Int).map I64)).alloc _).alloc _)) (ints_at ((row2 w13 _ (([4, 5] : List Int).map I64)).alloc _)) (ints_nil 0 _) (ints_at (row3 w13 _ _ (([1, 2, 3] : List Int).map I64))) ⟨by kernel_rfl, by kernel_rfl, by kernel_rfl, by kernel_rfl, by kernel_rfl⟩).mono ?_
  rintro e w14 ⟨rfl, hb⟩
  have HP14 := Lib.hid ((HP13.out.next (al3 w13 _ _ _)).next hb)
  have HB14 := Lib.hid (HB13.out.trans ((bt (al3 w13 _ _ _) hb).mono HB13.out.size))
  clear hb
  go_wp2_with fail
  refine (new_pb w14 HB14.out.size 3 (by decide) (by decide)).mono ?_
  rintro e w15 ⟨cb3, rfl, hp, hb⟩
  have HP15 := Lib.hid hp
  have HB15 := Lib.hid (HB14.out.trans (hb.mono HB14.out.size))
  clear hp hb
  go_wp2_with fail
  refine (puts_lit w15 cb3 _ HP15.out HB15.out.size [1, 2, 3] (by decide) (by decide) ⟨[(1, some 1), (2, some 2), (3, some 3)], [], [], [], 3, 0⟩ (by kernel_rfl)).mono ?_
  rintro e w16 ⟨rfl, hp, hb⟩
  have HP16 := Lib.hid (hp)
  have HB16 := Lib.hid (HB15.out.trans hb)
  clear hp hb
  go_wp2_with fail
  refine (gets_true w16 cb3 _ HP16.out HB16.out.size 1 (by decide) (by decide) (by kernel_rfl) ⟨[(2, some 2), (3, some 3)], [(1, some 1)], [], [], 3, 0⟩ (by kernel_rfl)).mono ?_
  rintro e w17 ⟨rfl, hp, hb⟩
  have HP17 := Lib.hid (hp)
  have HB17 := Lib.hid (HB16.out.trans hb)
  clear hp hb
  go_wp2_with fail
  refine (puts_lit w17 cb3 _ HP17.out HB17.out.size [4, 2, 3, 5, 6] (by decide) (by decide) ⟨[(4, some 4), (5, some 5), (6, some 6)], [], [], [(1, none), (2, none), (3, none)], 3, 2⟩ (by kernel_rfl)).mono ?_
  rintro e w18 ⟨rfl, hp, hb⟩
  have HP18 := Lib.hid (hp)
  have HB18 := Lib.hid (HB17.out.trans hb)
  clear hp hb
  go_wp2_with fail
  refine (gets_true w18 cb3 _ HP18.out HB18.out.size 4 (by decide) (by decide) (by kernel_rfl) ⟨[(5, some 5), (6, some 6)], [(4, some 4)], [], [(1, none), (2, none), (3, none)], 3, 2⟩ (by kernel_rfl)).mono ?_
  rintro e w19 ⟨rfl, hp, hb⟩
  have HP19 := Lib.hid (hp)
  have HB19 := Lib.hid (HB18.out.trans hb)
  clear hp hb
  go_wp2_with fail
  refine (puts_lit w19 cb3 _ HP19.out HB19.out.size [7] (by decide) (by decide) ⟨[(5, some 5), (6, some 6), (7, some 7)], [], [], [(2, none), (3, none), (4, none)], 3, 2⟩ (by kernel_rfl)).mono ?_
  rintro e w20 ⟨rfl, hp, hb⟩
  have HP20 := Lib.hid (hp)
  have HB20 := Lib.hid (HB19.out.trans hb)
  clear hp hb
  go_wp2_with fail
  refine (gets_true w20 cb3 _ HP20.out HB20.out.size 5 (by decide) (by decide) (by kernel_rfl) ⟨[(6, some 6), (7, some 7)], [(5, some 5)], [], [(2, none), (3, none), (4, none)], 3, 2⟩ (by kernel_rfl)).mono ?_
  rintro e w21 ⟨rfl, hp, hb⟩
  have HP21 := Lib.hid (hp)
  have HB21 := Lib.hid (HB20.out.trans hb)
  clear hp hb
  go_wp2_with fail
  refine (puts_lit w21 cb3 _ HP21.out HB21.out.size [2, 6, 8, 4, 7] (by decide) (by decide) ⟨[(8, some 8)], [(4, some 4), (7, some 7)], [], [(5, none), (2, none), (6, none)], 3, 3⟩ (by kernel_rfl)).mono ?_
  rintro e w22 ⟨rfl, hp, hb⟩
  have HP22 := Lib.hid (hp)
  have HB22 := Lib.hid (HB21.out.trans hb)
  clear hp hb
  go_wp2_with fail
  refine (rows_true _ cb3 _ (HP22.out.next (al3 w22 _ _ _)) [8] [4, 7] [] [5, 2, 6] _ _ _ _ 3 0 0 0 0 (ints_at (((RowAt.new w22 3 (([8] : List Int).map I64)).alloc _).alloc _)) (ints_at ((row2 w22 _ (([4, 7] : List Int).map I64)).alloc _)) (ints_nil 0 _) (ints_at (row3 w22 _ _ (([5, 2, 6] : List Int).map I64))) ⟨by kernel_rfl, by kernel_rfl, by kernel_rfl, by kernel_rfl, by kernel_rfl⟩).mono ?_
  rintro e w23 ⟨rfl, hb⟩
  have HP23 := Lib.hid ((HP22.out.next (al3 w22 _ _ _)).next hb)
  have HB23 := Lib.hid (HB22.out.trans ((bt (al3 w22 _ _ _) hb).mono HB22.out.size))
  clear hb
  go_wp2_with fail
  refine (new_pb w23 HB23.out.size 6 (by decide) (by decide)).mono ?_
  rintro e w24 ⟨cb4, rfl, hp, hb⟩
  have HP24 := Lib.hid hp
  have HB24 := Lib.hid (HB23.out.trans (hb.mono HB23.out.size))
  clear hp hb
  go_wp2_with fail
  refine (puts_lit w24 cb4 _ HP24.out HB24.out.size [1, 2, 3, 4, 5, 6] (by decide) (by decide) ⟨[(1, some 1), (2, some 2), (3, some 3), (4, some 4), (5, some 5), (6, some 6)], [], [], [], 6, 0⟩ (by kernel_rfl)).mono ?_
  rintro e w25 ⟨rfl, hp, hb⟩
  have HP25 := Lib.hid (hp)
  have HB25 := Lib.hid (HB24.out.trans hb)
  clear hp hb
  go_wp2_with fail
  refine (gets_true w25 cb4 _ HP25.out HB25.out.size 1 (by decide) (by decide) (by kernel_rfl) ⟨[(2, some 2), (3, some 3), (4, some 4), (5, some 5), (6, some 6)], [(1, some 1)], [], [], 6, 0⟩ (by kernel_rfl)).mono ?_
  rintro e w26 ⟨rfl, hp, hb⟩
  have HP26 := Lib.hid (hp)
  have HB26 := Lib.hid (HB25.out.trans hb)
  clear hp hb
  go_wp2_with fail
  refine (gets_true w26 cb4 _ HP26.out HB26.out.size 2 (by decide) (by decide) (by kernel_rfl) ⟨[(3, some 3), (4, some 4), (5, some 5), (6, some 6)], [(1, some 1), (2, some 2)], [], [], 6, 0⟩ (by kernel_rfl)).mono ?_
  rintro e w27 ⟨rfl, hp, hb⟩
  have HP27 := Lib.hid (hp)
  have HB27 := Lib.hid (HB26.out.trans hb)
  clear hp hb
  go_wp2_with fail
  refine (gets_true w27 cb4 _ HP27.out HB27.out.size 3 (by decide) (by decide) (by kernel_rfl) ⟨[(4, some 4), (5, some 5), (6, some 6)], [(1, some 1), (2, some 2), (3, some 3)], [], [], 6, 0⟩ (by kernel_rfl)).mono ?_
  rintro e w28 ⟨rfl, hp, hb⟩
  have HP28 := Lib.hid (hp)
  have HB28 := Lib.hid (HB27.out.trans hb)
  clear hp hb
  go_wp2_with fail
  refine (puts_lit w28 cb4 _ HP28.out HB28.out.size [7, 4, 5] (by decide) (by decide) ⟨[(6, some 6), (7, some 7)], [(2, some 2), (3, some 3), (4, some 4), (5, some 5)], [], [(1, none)], 6, 2⟩ (by kernel_rfl)).mono ?_
  rintro e w29 ⟨rfl, hp, hb⟩
  have HP29 := Lib.hid (hp)
  have HB29 := Lib.hid (HB28.out.trans hb)
  clear hp hb
  go_wp2_with fail
  refine (drop_true w29 cb4 _ HP29.out HB29.out.size 2 (by decide) ⟨[(6, some 6), (7, some 7)], [(3, some 3), (4, some 4), (5, some 5)], [], [(1, none)], 6, 2⟩ (by kernel_rfl)).mono ?_
  rintro e w30 ⟨rfl, hp, hb⟩
  have HP30 := Lib.hid (hp)
  have HB30 := Lib.hid (HB29.out.trans hb)
  clear hp hb
  go_wp2_with fail
  refine (puts_lit w30 cb4 _ HP30.out HB30.out.size [8, 9, 10, 1] (by decide) (by decide) ⟨[(9, some 9), (10, some 10)], [(3, some 3), (4, some 4), (5, some 5), (1, some 1)], [(6, none), (7, none), (8, none)], [], 6, 0⟩ (by kernel_rfl)).mono ?_
  rintro e w31 ⟨rfl, hp, hb⟩
  have HP31 := Lib.hid (hp)
  have HB31 := Lib.hid (HB30.out.trans hb)
  clear hp hb
  go_wp2_with fail
  refine (rows_true _ cb4 _ (HP31.out.next (al3 w31 _ _ _)) [9, 10] [3, 4, 5, 1] [6, 7, 8] [] _ _ _ _ 0 0 0 0 0 (ints_at (((RowAt.new w31 3 (([9, 10] : List Int).map I64)).alloc _).alloc _)) (ints_at ((row2 w31 _ (([3, 4, 5, 1] : List Int).map I64)).alloc _)) (ints_at (row3 w31 _ _ (([6, 7, 8] : List Int).map I64))) (ints_nil 0 _) ⟨by kernel_rfl, by kernel_rfl, by kernel_rfl, by kernel_rfl, by kernel_rfl⟩).mono ?_
  rintro e w32 ⟨rfl, hb⟩
  have HP32 := Lib.hid ((HP31.out.next (al3 w31 _ _ _)).next hb)
  have HB32 := Lib.hid (HB31.out.trans ((bt (al3 w31 _ _ _) hb).mono HB31.out.size))
  clear hb
  go_wp2
  go_ret
  exact ⟨rfl, HB32.out⟩
end Go.Proofs.Ytefjpljjdjecjaa
