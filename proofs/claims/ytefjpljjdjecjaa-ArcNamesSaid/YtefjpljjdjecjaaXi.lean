/- ArcNames: the walk. -/
import Derived.Test.YtefjpljjdjecjaaXh
namespace Go.Proofs.Ytefjpljjdjecjaa
open Go.RowKit
theorem PA.ge {B : Nat} {w : World} {cb : Nat} {p : Pu} (h : PB B w cb p) : B ≤ cb := by
  obtain ⟨s, _, _, _, _, h5⟩ := h
  have := h5 cb
  by_cases hc : cb < B
  · exact absurd (.inl rfl) (this hc)
  · omega
theorem get_no {B : Nat} (w : World) (cb : Nat) (p : Pu) (h : PB B w cb p) (hB : B ≤ w.heap.size) (key : Int) (hl : lookP p key = none) (Z : List Value) (hZ : Z = blk 0) :
    Calls Try.prog 12 #[.pointer (some ⟨cb, 0, none⟩), .int .i64 key] w fun e w' => e = .returned (.tuple #[.agg Z.toArray, .int .i64 5]) ∧ PB B w' cb p ∧ Below B w w' := by
  subst hZ
  refine (get_pa_none w cb p h key hl).mono ?_
  rintro e w' ⟨rfl, hp, hb⟩
  exact ⟨rfl, hp, hb.mono hB⟩
theorem get_yes {B : Nat} (w : World) (cb : Nat) (p : Pu) (h : PB B w cb p) (hB : B ≤ w.heap.size) (key c : Int) (hl : lookP p key = some c) (Y : List Value) (hY : Y = blk c) (p' : Pu) (hp : moveP p key (some c) = p') :
    Calls Try.prog 12 #[.pointer (some ⟨cb, 0, none⟩), .int .i64 key] w fun e w' => e = .returned (.tuple #[.agg Y.toArray, .int .i64 0]) ∧ PB B w' cb p' ∧ Below B w w' := by
  subst hY hp
  refine (get_pa_some w cb p h (fun k hk => Nat.lt_of_lt_of_le hk hB) key c hl).mono ?_
  rintro e w' ⟨rfl, hp, hk⟩
  exact ⟨rfl, hp, Kp.below hk hB⟩
theorem put_lit {B : Nat} (w : World) (cb : Nat) (p : Pu) (h : PB B w cb p) (hB : B ≤ w.heap.size) (key c : Int) (Y : List Value) (hY : Y = blk c) (p' : Pu) (hp : putP p key c = p') :
    Calls Try.prog 11 #[.pointer (some ⟨cb, 0, none⟩), .int .i64 key, .agg Y.toArray] w fun e w' => e = .returned (.int .i64 0) ∧ PB B w' cb p' ∧ Below B w w' := by
  subst hY hp
  exact put_pb w cb p h hB key c
set_option maxRecDepth 100000 in
set_option maxHeartbeats 40000000 in
theorem names_law (w0 : World) : Calls Try.prog 7 #[] w0 fun e w' => e = .returned (.bool true) ∧ Below w0.heap.size w0 w' := by
  obtain ⟨Z, hZ⟩ : ∃ Z, Z = blk 0 := ⟨_, rfl⟩
  obtain ⟨Y, hY⟩ : ∃ Y, Y = blk 200 := ⟨_, rfl⟩
  have z30 : ∀ w, (zeroValue 30).run Try.prog w = .ok (.agg Z.toArray) w := by intro w; rw [hZ]; exact zero30 w
  have H1Z : Hid (OneC Z) := Lib.hid (by rw [hZ]; exact blk_one _)
  have H1Y : Hid (OneC Y) := Lib.hid (by rw [hY]; exact blk_one _)
  have HIZ : Hid ((Try.prog.info? 30).map (·.size) = some Z.toArray.size) := Lib.hid (by rw [info30]; simp [H1Z.out.1])
  have HIY : Hid ((Try.prog.info? 30).map (·.size) = some Y.toArray.size) := Lib.hid (by rw [info30]; simp [H1Y.out.1])
  have HOY : Hid (Z.toArray.size = Y.toArray.size) := Lib.hid (by simp [H1Z.out.1, H1Y.out.1])
  have HB30Y : Hid (Try.prog.built 30 [(0, .int .u8 200)] = some Y.toArray) := Lib.hid (by rw [hY]; exact built30c 200)
  have HEY : Hid (∀ w, (Op.equalIn 10000 30 (.agg Y.toArray) (.agg Y.toArray)).run Try.prog w = .ok true w) := Lib.hid (by intro w; rw [hY, eq30]; simp)
  have HZ0 := Lib.hid hZ
  have HY0 := Lib.hid hY
  clear hZ hY
  go_enter Try.func7, Try.ntmps7
  go_wp2_with fail
  refine (works_any w0).mono ?_
  rintro e w1 ⟨rfl, hb⟩
  have HB1 := Lib.hid hb
  clear hb
  go_wp2_with fail
  refine (new_not w1 0 (by decide)).mono ?_
  rintro e V ⟨rfl, rfl⟩
  go_wp2_with fail
  refine (new_not w1 1025 (by decide)).mono ?_
  rintro e V ⟨rfl, rfl⟩
  go_wp2_with fail
  refine (new_pb w1 HB1.out.size 1024 (by decide) (by decide)).mono ?_
  rintro e w2 ⟨cb1, rfl, hp, hb⟩
  have HP2 := Lib.hid hp
  have HB2 := Lib.hid (HB1.out.trans (hb.mono HB1.out.size))
  clear hp hb
  clear HP2
  go_wp2_with fail
  refine (new_pb w2 HB2.out.size 3 (by decide) (by decide)).mono ?_
  rintro e w3 ⟨cb2, rfl, hp, hb⟩
  have HP3 := Lib.hid hp
  have HB3 := Lib.hid (HB2.out.trans (hb.mono HB2.out.size))
  clear hp hb
  go_wp2_with fail
  refine (get_no w3 cb2 _ HP3.out HB3.out.size 1 (by kernel_rfl) Z HZ0.out).mono ?_
  rintro e w4 ⟨rfl, hp, hb⟩
  have HP4 := Lib.hid (hp)
  have HB4 := Lib.hid (HB3.out.trans hb)
  clear hp hb
  have HD := Lib.hid (RowAt.new w4 30 Z)
  have HDS := Lib.hid ((RowAt.new w4 30 Z).setRow (l' := Z))
  have hb5 : Below w4.heap.size w4 ((w4.alloc (.cells Z.toArray 30)).setRow w4.heap.size Z.toArray) := ((Below.refl _ _).alloc (Nat.le_refl _) _).trans (below_setRow (Nat.le_refl _))
  have HP5 := Lib.hid (HP4.out.next hb5)
  have HB5 := Lib.hid (HB4.out.trans (hb5.mono HB4.out.size))
  clear hb5
  go_wp2_with (first | (refine wpList_store_row rfl 30 (.tmp 9) (.tmp 63) rfl w4.heap.size Z.toArray rfl rfl 30 Z.toArray HD.out HIZ.out rfl H1Z.out.2 ?_))
  generalize (w4.alloc (.cells Z.toArray 30)).setRow w4.heap.size Z.toArray = w5 at *
  obtain ⟨b5, hb9⟩ : ∃ b, b = w4.heap.size := ⟨_, rfl⟩
  rw [← hb9]
  clear hb9 HD HDS
  refine (drop_pa_none w5 cb2 _ HP5.out 1 (by kernel_rfl)).mono ?_
  rintro e V ⟨rfl, rfl⟩
  go_wp2_with fail
  refine (puts_lit w5 cb2 _ HP5.out HB5.out.size [1, 2, 3] (by decide) (by decide) ⟨[(1, some 1), (2, some 2), (3, some 3)], [], [], [], 3, 0⟩ (by kernel_rfl)).mono ?_
  rintro e w6 ⟨rfl, hp, hb⟩
  have HP6 := Lib.hid (hp)
  have HB6 := Lib.hid (HB5.out.trans hb)
  clear hp hb
  go_wp2_with fail
  refine (gets_true w6 cb2 _ HP6.out HB6.out.size 1 (by decide) (by decide) (by kernel_rfl) ⟨[(2, some 2), (3, some 3)], [(1, some 1)], [], [], 3, 0⟩ (by kernel_rfl)).mono ?_
  rintro e w7 ⟨rfl, hp, hb⟩
  have HP7 := Lib.hid (hp)
  have HB7 := Lib.hid (HB6.out.trans hb)
  clear hp hb
  go_wp2_with fail
  refine (gets_true w7 cb2 _ HP7.out HB7.out.size 2 (by decide) (by decide) (by kernel_rfl) ⟨[(3, some 3)], [(1, some 1), (2, some 2)], [], [], 3, 0⟩ (by kernel_rfl)).mono ?_
  rintro e w8 ⟨rfl, hp, hb⟩
  have HP8 := Lib.hid (hp)
  have HB8 := Lib.hid (HB7.out.trans hb)
  clear hp hb
  go_wp2_with fail
  refine (rows_true _ cb2 _ (HP8.out.next (al2 w8 _ _)) [3] [1, 2] [] [] _ _ _ _ 0 0 0 0 0 (ints_at ((RowAt.new w8 3 (([3] : List Int).map I64)).alloc _)) (ints_at (row2 w8 _ (([1, 2] : List Int).map I64))) (ints_nil 0 _) (ints_nil 0 _) ⟨by kernel_rfl, by kernel_rfl, by kernel_rfl, by kernel_rfl, by kernel_rfl⟩).mono ?_
  rintro e w9 ⟨rfl, hb⟩
  have HP9 := Lib.hid ((HP8.out.next (al2 w8 _ _)).next hb)
  have HB9 := Lib.hid (HB8.out.trans ((bt (al2 w8 _ _) hb).mono HB8.out.size))
  clear hb
  go_wp2_with fail
  refine (puts_lit w9 cb2 _ HP9.out HB9.out.size [4] (by decide) (by decide) ⟨[(4, some 4)], [(1, some 1), (2, some 2)], [(3, none)], [], 3, 0⟩ (by kernel_rfl)).mono ?_
  rintro e w10 ⟨rfl, hp, hb⟩
  have HP10 := Lib.hid (hp)
  have HB10 := Lib.hid (HB9.out.trans hb)
  clear hp hb
  go_wp2_with fail
  refine (rows_true _ cb2 _ (HP10.out.next (al3 w10 _ _ _)) [4] [1, 2] [3] [] _ _ _ _ 0 0 0 0 0 (ints_at (((RowAt.new w10 3 (([4] : List Int).map I64)).alloc _).alloc _)) (ints_at ((row2 w10 _ (([1, 2] : List Int).map I64)).alloc _)) (ints_at (row3 w10 _ _ (([3] : List Int).map I64))) (ints_nil 0 _) ⟨by kernel_rfl, by kernel_rfl, by kernel_rfl, by kernel_rfl, by kernel_rfl⟩).mono ?_
  rintro e w11 ⟨rfl, hb⟩
  have HP11 := Lib.hid ((HP10.out.next (al3 w10 _ _ _)).next hb)
  have HB11 := Lib.hid (HB10.out.trans ((bt (al3 w10 _ _ _) hb).mono HB10.out.size))
  clear hb
  as_aux_lemma =>
    go_wp2_with fail
    refine (puts_lit w11 cb2 _ HP11.out HB11.out.size [3] (by decide) (by decide) ⟨[(4, some 4)], [(2, some 2), (3, some 3)], [], [(1, none)], 3, 1⟩ (by kernel_rfl)).mono ?_
    rintro e w12 ⟨rfl, hp, hb⟩
    have HP12 := Lib.hid (hp)
    have HB12 := Lib.hid (HB11.out.trans hb)
    clear hp hb
    go_wp2_with fail
    refine (rows_true _ cb2 _ (HP12.out.next (al3 w12 _ _ _)) [4] [2, 3] [] [1] _ _ _ _ 1 0 0 0 0 (ints_at (((RowAt.new w12 3 (([4] : List Int).map I64)).alloc _).alloc _)) (ints_at ((row2 w12 _ (([2, 3] : List Int).map I64)).alloc _)) (ints_nil 0 _) (ints_at (row3 w12 _ _ (([1] : List Int).map I64))) ⟨by kernel_rfl, by kernel_rfl, by kernel_rfl, by kernel_rfl, by kernel_rfl⟩).mono ?_
    rintro e w13 ⟨rfl, hb⟩
    have HP13 := Lib.hid ((HP12.out.next (al3 w12 _ _ _)).next hb)
    have HB13 := Lib.hid (HB12.out.trans ((bt (al3 w12 _ _ _) hb).mono HB12.out.size))
    clear hb
    go_wp2_with fail
    refine (puts_lit w13 cb2 _ HP13.out HB13.out.size [1] (by decide) (by decide) ⟨[], [(2, some 2), (3, some 3), (1, some 1)], [(4, none)], [], 3, 0⟩ (by kernel_rfl)).mono ?_
    rintro e w14 ⟨rfl, hp, hb⟩
    have HP14 := Lib.hid (hp)
    have HB14 := Lib.hid (HB13.out.trans hb)
    clear hp hb
    go_wp2_with fail
    refine (rows_true _ cb2 _ (HP14.out.next (al2 w14 _ _)) [] [2, 3, 1] [4] [] _ _ _ _ 0 0 0 0 0 (ints_nil 0 _) (ints_at ((RowAt.new w14 3 (([2, 3, 1] : List Int).map I64)).alloc _)) (ints_at (row2 w14 _ (([4] : List Int).map I64))) (ints_nil 0 _) ⟨by kernel_rfl, by kernel_rfl, by kernel_rfl, by kernel_rfl, by kernel_rfl⟩).mono ?_
    rintro e w15 ⟨rfl, hb⟩
    have HP15 := Lib.hid ((HP14.out.next (al2 w14 _ _)).next hb)
    have HB15 := Lib.hid (HB14.out.trans ((bt (al2 w14 _ _) hb).mono HB14.out.size))
    clear hb
    go_wp2_with fail
    refine (get_no w15 cb2 _ HP15.out HB15.out.size 4 (by kernel_rfl) Z HZ0.out).mono ?_
    rintro e w16 ⟨rfl, hp, hb⟩
    have HP16 := Lib.hid (hp)
    have HB16 := Lib.hid (HB15.out.trans hb)
    clear hp hb
    have HD := Lib.hid (RowAt.new w16 30 Z)
    have HDS := Lib.hid ((RowAt.new w16 30 Z).setRow (l' := Z))
    have hb5 : Below w16.heap.size w16 ((w16.alloc (.cells Z.toArray 30)).setRow w16.heap.size Z.toArray) := ((Below.refl _ _).alloc (Nat.le_refl _) _).trans (below_setRow (Nat.le_refl _))
    have HP17 := Lib.hid (HP16.out.next hb5)
    have HB17 := Lib.hid (HB16.out.trans (hb5.mono HB16.out.size))
    clear hb5
    go_wp2_with (first | (refine wpList_store_row rfl 30 (.tmp 11) (.tmp 135) rfl w16.heap.size Z.toArray rfl rfl 30 Z.toArray HD.out HIZ.out rfl H1Z.out.2 ?_))
    generalize (w16.alloc (.cells Z.toArray 30)).setRow w16.heap.size Z.toArray = w17 at *
    obtain ⟨b17, hb9⟩ : ∃ b, b = w16.heap.size := ⟨_, rfl⟩
    rw [← hb9]
    clear hb9 HD HDS
    refine (drop_true w17 cb2 _ HP17.out HB17.out.size 4 (by decide) ⟨[], [(2, some 2), (3, some 3), (1, some 1)], [], [], 3, 0⟩ (by kernel_rfl)).mono ?_
    rintro e w18 ⟨rfl, hp, hb⟩
    have HP18 := Lib.hid (hp)
    have HB18 := Lib.hid (HB17.out.trans hb)
    clear hp hb
    go_wp2_with fail
    refine (rows_true _ cb2 _ (HP18.out.next (al1 w18 _)) [] [2, 3, 1] [] [] _ _ _ _ 0 0 0 0 0 (ints_nil 0 _) (ints_at (RowAt.new w18 3 (([2, 3, 1] : List Int).map I64))) (ints_nil 0 _) (ints_nil 0 _) ⟨by kernel_rfl, by kernel_rfl, by kernel_rfl, by kernel_rfl, by kernel_rfl⟩).mono ?_
    rintro e w19 ⟨rfl, hb⟩
    have HP19 := Lib.hid ((HP18.out.next (al1 w18 _)).next hb)
    have HB19 := Lib.hid (HB18.out.trans ((bt (al1 w18 _) hb).mono HB18.out.size))
    clear hb
    go_wp2_with fail
    refine (drop_true w19 cb2 _ HP19.out HB19.out.size 3 (by decide) ⟨[], [(2, some 2), (1, some 1)], [], [], 3, 0⟩ (by kernel_rfl)).mono ?_
    rintro e w20 ⟨rfl, hp, hb⟩
    have HP20 := Lib.hid (hp)
    have HB20 := Lib.hid (HB19.out.trans hb)
    clear hp hb
    go_wp2_with fail
    refine (rows_true _ cb2 _ (HP20.out.next (al1 w20 _)) [] [2, 1] [] [] _ _ _ _ 0 0 0 0 0 (ints_nil 0 _) (ints_at (RowAt.new w20 3 (([2, 1] : List Int).map I64))) (ints_nil 0 _) (ints_nil 0 _) ⟨by kernel_rfl, by kernel_rfl, by kernel_rfl, by kernel_rfl, by kernel_rfl⟩).mono ?_
    rintro e w21 ⟨rfl, hb⟩
    have HP21 := Lib.hid ((HP20.out.next (al1 w20 _)).next hb)
    have HB21 := Lib.hid (HB20.out.trans ((bt (al1 w20 _) hb).mono HB20.out.size))
    clear hb
    go_wp2_with fail
    refine (puts_lit w21 cb2 _ HP21.out HB21.out.size [5] (by decide) (by decide) ⟨[(5, some 5)], [(2, some 2), (1, some 1)], [], [], 3, 0⟩ (by kernel_rfl)).mono ?_
    rintro e w22 ⟨rfl, hp, hb⟩
    have HP22 := Lib.hid (hp)
    have HB22 := Lib.hid (HB21.out.trans hb)
    clear hp hb
    go_wp2_with fail
    refine (rows_true _ cb2 _ (HP22.out.next (al2 w22 _ _)) [5] [2, 1] [] [] _ _ _ _ 0 0 0 0 0 (ints_at ((RowAt.new w22 3 (([5] : List Int).map I64)).alloc _)) (ints_at (row2 w22 _ (([2, 1] : List Int).map I64))) (ints_nil 0 _) (ints_nil 0 _) ⟨by kernel_rfl, by kernel_rfl, by kernel_rfl, by kernel_rfl, by kernel_rfl⟩).mono ?_
    rintro e w23 ⟨rfl, hb⟩
    have HP23 := Lib.hid ((HP22.out.next (al2 w22 _ _)).next hb)
    have HB23 := Lib.hid (HB22.out.trans ((bt (al2 w22 _ _) hb).mono HB22.out.size))
    clear hb
    as_aux_lemma =>
      go_wp2_with (refine wpList_buildR (t := 30) (parts := #[(0, .const (.int .u8 200))]) (v := Y) rfl rfl [(0, .int .u8 200)] ?hl ?hbb ?_; (case hbb => with_reducible exact HB30Y.out); (case hl => simp only [List.map_toArray, List.map_cons, List.map_nil]; rfl))
      refine (put_lit w23 cb2 _ HP23.out HB23.out.size 2 200 Y HY0.out ⟨[(5, some 5)], [(1, some 1), (2, some 200)], [], [], 3, 0⟩ (by kernel_rfl)).mono ?_
      rintro e w24 ⟨rfl, hp, hb⟩
      have HP24 := Lib.hid (hp)
      have HB24 := Lib.hid (HB23.out.trans hb)
      clear hp hb
      go_wp2_with fail
      refine (rows_true _ cb2 _ (HP24.out.next (al2 w24 _ _)) [5] [1, 2] [] [] _ _ _ _ 0 0 0 0 0 (ints_at ((RowAt.new w24 3 (([5] : List Int).map I64)).alloc _)) (ints_at (row2 w24 _ (([1, 2] : List Int).map I64))) (ints_nil 0 _) (ints_nil 0 _) ⟨by kernel_rfl, by kernel_rfl, by kernel_rfl, by kernel_rfl, by kernel_rfl⟩).mono ?_
      rintro e w25 ⟨rfl, hb⟩
      have HP25 := Lib.hid ((HP24.out.next (al2 w24 _ _)).next hb)
      have HB25 := Lib.hid (HB24.out.trans ((bt (al2 w24 _ _) hb).mono HB24.out.size))
      clear hb
      go_wp2_with fail
      refine (get_yes w25 cb2 _ HP25.out HB25.out.size 2 200 (by kernel_rfl) Y HY0.out ⟨[(5, some 5)], [(1, some 1), (2, some 200)], [], [], 3, 0⟩ (by kernel_rfl)).mono ?_
      rintro e w26 ⟨rfl, hp, hb⟩
      have HP26 := Lib.hid (hp)
      have HB26 := Lib.hid (HB25.out.trans hb)
      clear hp hb
      have HD := Lib.hid (RowAt.new w26 30 Z)
      have HDS := Lib.hid ((RowAt.new w26 30 Z).setRow (l' := Y))
      have hb5 : Below w26.heap.size w26 ((w26.alloc (.cells Z.toArray 30)).setRow w26.heap.size Y.toArray) := ((Below.refl _ _).alloc (Nat.le_refl _) _).trans (below_setRow (Nat.le_refl _))
      have HP27 := Lib.hid (HP26.out.next hb5)
      have HB27 := Lib.hid (HB26.out.trans (hb5.mono HB26.out.size))
      clear hb5
      go_wp2_with (first | (refine wpList_store_row rfl 30 (.tmp 13) (.tmp 188) rfl w26.heap.size Y.toArray rfl rfl 30 Z.toArray HD.out HIY.out HOY.out H1Y.out.2 ?_) | (refine wpList_loadR (x := .tmp 13) rfl rfl rfl (load30 HDS.out H1Y.out.1) ?_) | (refine wpList_buildR (t := 30) (parts := #[(0, .const (.int .u8 200))]) (v := Y) rfl rfl [(0, .int .u8 200)] ?hl ?hbb ?_; (case hbb => with_reducible exact HB30Y.out); (case hl => simp only [List.map_toArray, List.map_cons, List.map_nil]; rfl)) | (refine wpList_eqlR (x := .tmp 193) (y := .tmp 194) rfl rfl rfl rfl (guard30 _ _ _ _ _ _) (neq30 (HEY.out _)) ?_))
      generalize (w26.alloc (.cells Z.toArray 30)).setRow w26.heap.size Y.toArray = w27 at *
      obtain ⟨b27, hb9⟩ : ∃ b, b = w26.heap.size := ⟨_, rfl⟩
      rw [← hb9]
      clear hb9 HD HDS
      refine (new_pb w27 HB27.out.size 4 (by decide) (by decide)).mono ?_
      rintro e w28 ⟨cb3, rfl, hp, hb⟩
      have HP28 := Lib.hid hp
      have HB28 := Lib.hid (HB27.out.trans (hb.mono HB27.out.size))
      clear hp hb
      go_wp2_with fail
      refine (puts_lit w28 cb3 _ HP28.out HB28.out.size [1, 2, 3, 4] (by decide) (by decide) ⟨[(1, some 1), (2, some 2), (3, some 3), (4, some 4)], [], [], [], 4, 0⟩ (by kernel_rfl)).mono ?_
      rintro e w29 ⟨rfl, hp, hb⟩
      have HP29 := Lib.hid (hp)
      have HB29 := Lib.hid (HB28.out.trans hb)
      clear hp hb
      go_wp2_with fail
      refine (gets_true w29 cb3 _ HP29.out HB29.out.size 1 (by decide) (by decide) (by kernel_rfl) ⟨[(2, some 2), (3, some 3), (4, some 4)], [(1, some 1)], [], [], 4, 0⟩ (by kernel_rfl)).mono ?_
      rintro e w30 ⟨rfl, hp, hb⟩
      have HP30 := Lib.hid (hp)
      have HB30 := Lib.hid (HB29.out.trans hb)
      clear hp hb
      go_wp2_with fail
      refine (gets_true w30 cb3 _ HP30.out HB30.out.size 2 (by decide) (by decide) (by kernel_rfl) ⟨[(3, some 3), (4, some 4)], [(1, some 1), (2, some 2)], [], [], 4, 0⟩ (by kernel_rfl)).mono ?_
      rintro e w31 ⟨rfl, hp, hb⟩
      have HP31 := Lib.hid (hp)
      have HB31 := Lib.hid (HB30.out.trans hb)
      clear hp hb
      go_wp2_with fail
      refine (gets_true w31 cb3 _ HP31.out HB31.out.size 3 (by decide) (by decide) (by kernel_rfl) ⟨[(4, some 4)], [(1, some 1), (2, some 2), (3, some 3)], [], [], 4, 0⟩ (by kernel_rfl)).mono ?_
      rintro e w32 ⟨rfl, hp, hb⟩
      have HP32 := Lib.hid (hp)
      have HB32 := Lib.hid (HB31.out.trans hb)
      clear hp hb
      as_aux_lemma =>
        go_wp2_with fail
        refine (puts_lit w32 cb3 _ HP32.out HB32.out.size [5] (by decide) (by decide) ⟨[(5, some 5)], [(1, some 1), (2, some 2), (3, some 3)], [(4, none)], [], 4, 0⟩ (by kernel_rfl)).mono ?_
        rintro e w33 ⟨rfl, hp, hb⟩
        have HP33 := Lib.hid (hp)
        have HB33 := Lib.hid (HB32.out.trans hb)
        clear hp hb
        go_wp2_with fail
        refine (rows_true _ cb3 _ (HP33.out.next (al3 w33 _ _ _)) [5] [1, 2, 3] [4] [] _ _ _ _ 0 0 0 0 0 (ints_at (((RowAt.new w33 3 (([5] : List Int).map I64)).alloc _).alloc _)) (ints_at ((row2 w33 _ (([1, 2, 3] : List Int).map I64)).alloc _)) (ints_at (row3 w33 _ _ (([4] : List Int).map I64))) (ints_nil 0 _) ⟨by kernel_rfl, by kernel_rfl, by kernel_rfl, by kernel_rfl, by kernel_rfl⟩).mono ?_
        rintro e w34 ⟨rfl, hb⟩
        have HP34 := Lib.hid ((HP33.out.next (al3 w33 _ _ _)).next hb)
        have HB34 := Lib.hid (HB33.out.trans ((bt (al3 w33 _ _ _) hb).mono HB33.out.size))
        clear hb
        go_wp2_with fail
        refine (puts_lit w34 cb3 _ HP34.out HB34.out.size [4] (by decide) (by decide) ⟨[(5, some 5)], [(2, some 2), (3, some 3), (4, some 4)], [], [(1, none)], 4, 1⟩ (by kernel_rfl)).mono ?_
        rintro e w35 ⟨rfl, hp, hb⟩
        have HP35 := Lib.hid (hp)
        have HB35 := Lib.hid (HB34.out.trans hb)
        clear hp hb
        go_wp2_with fail
        refine (rows_true _ cb3 _ (HP35.out.next (al3 w35 _ _ _)) [5] [2, 3, 4] [] [1] _ _ _ _ 1 0 0 0 0 (ints_at (((RowAt.new w35 3 (([5] : List Int).map I64)).alloc _).alloc _)) (ints_at ((row2 w35 _ (([2, 3, 4] : List Int).map I64)).alloc _)) (ints_nil 0 _) (ints_at (row3 w35 _ _ (([1] : List Int).map I64))) ⟨by kernel_rfl, by kernel_rfl, by kernel_rfl, by kernel_rfl, by kernel_rfl⟩).mono ?_
        rintro e w36 ⟨rfl, hb⟩
        have HP36 := Lib.hid ((HP35.out.next (al3 w35 _ _ _)).next hb)
        have HB36 := Lib.hid (HB35.out.trans ((bt (al3 w35 _ _ _) hb).mono HB35.out.size))
        clear hb
        go_wp2_with fail
        refine (puts_lit w36 cb3 _ HP36.out HB36.out.size [6] (by decide) (by decide) ⟨[(5, some 5), (6, some 6)], [(3, some 3), (4, some 4)], [], [(1, none), (2, none)], 4, 1⟩ (by kernel_rfl)).mono ?_
        rintro e w37 ⟨rfl, hp, hb⟩
        have HP37 := Lib.hid (hp)
        have HB37 := Lib.hid (HB36.out.trans hb)
        clear hp hb
        go_wp2_with fail
        refine (rows_true _ cb3 _ (HP37.out.next (al3 w37 _ _ _)) [5, 6] [3, 4] [] [1, 2] _ _ _ _ 1 0 0 0 0 (ints_at (((RowAt.new w37 3 (([5, 6] : List Int).map I64)).alloc _).alloc _)) (ints_at ((row2 w37 _ (([3, 4] : List Int).map I64)).alloc _)) (ints_nil 0 _) (ints_at (row3 w37 _ _ (([1, 2] : List Int).map I64))) ⟨by kernel_rfl, by kernel_rfl, by kernel_rfl, by kernel_rfl, by kernel_rfl⟩).mono ?_
        rintro e w38 ⟨rfl, hb⟩
        have HP38 := Lib.hid ((HP37.out.next (al3 w37 _ _ _)).next hb)
        have HB38 := Lib.hid (HB37.out.trans ((bt (al3 w37 _ _ _) hb).mono HB37.out.size))
        clear hb
        as_aux_lemma =>
          go_wp2_with fail
          refine (new_pb w38 HB38.out.size 1 (by decide) (by decide)).mono ?_
          rintro e w39 ⟨cb4, rfl, hp, hb⟩
          have HP39 := Lib.hid hp
          have HB39 := Lib.hid (HB38.out.trans (hb.mono HB38.out.size))
          clear hp hb
          go_wp2_with fail
          refine (puts_lit w39 cb4 _ HP39.out HB39.out.size [1, 2] (by decide) (by decide) ⟨[(2, some 2)], [], [], [], 1, 0⟩ (by kernel_rfl)).mono ?_
          rintro e w40 ⟨rfl, hp, hb⟩
          have HP40 := Lib.hid (hp)
          have HB40 := Lib.hid (HB39.out.trans hb)
          clear hp hb
          go_wp2_with fail
          refine (rows_true _ cb4 _ (HP40.out.next (al1 w40 _)) [2] [] [] [] _ _ _ _ 0 0 0 0 0 (ints_at (RowAt.new w40 3 (([2] : List Int).map I64))) (ints_nil 0 _) (ints_nil 0 _) (ints_nil 0 _) ⟨by kernel_rfl, by kernel_rfl, by kernel_rfl, by kernel_rfl, by kernel_rfl⟩).mono ?_
          rintro e w41 ⟨rfl, hb⟩
          have HP41 := Lib.hid ((HP40.out.next (al1 w40 _)).next hb)
          have HB41 := Lib.hid (HB40.out.trans ((bt (al1 w40 _) hb).mono HB40.out.size))
          clear hb
          go_wp2_with fail
          refine (gets_true w41 cb4 _ HP41.out HB41.out.size 2 (by decide) (by decide) (by kernel_rfl) ⟨[], [(2, some 2)], [], [], 1, 0⟩ (by kernel_rfl)).mono ?_
          rintro e w42 ⟨rfl, hp, hb⟩
          have HP42 := Lib.hid (hp)
          have HB42 := Lib.hid (HB41.out.trans hb)
          clear hp hb
          go_wp2_with fail
          refine (puts_lit w42 cb4 _ HP42.out HB42.out.size [3] (by decide) (by decide) ⟨[(3, some 3)], [], [], [(2, none)], 1, 0⟩ (by kernel_rfl)).mono ?_
          rintro e w43 ⟨rfl, hp, hb⟩
          have HP43 := Lib.hid (hp)
          have HB43 := Lib.hid (HB42.out.trans hb)
          clear hp hb
          go_wp2_with fail
          refine (rows_true _ cb4 _ (HP43.out.next (al2 w43 _ _)) [3] [] [] [2] _ _ _ _ 0 0 0 0 0 (ints_at ((RowAt.new w43 3 (([3] : List Int).map I64)).alloc _)) (ints_nil 0 _) (ints_nil 0 _) (ints_at (row2 w43 _ (([2] : List Int).map I64))) ⟨by kernel_rfl, by kernel_rfl, by kernel_rfl, by kernel_rfl, by kernel_rfl⟩).mono ?_
          rintro e w44 ⟨rfl, hb⟩
          have HP44 := Lib.hid ((HP43.out.next (al2 w43 _ _)).next hb)
          have HB44 := Lib.hid (HB43.out.trans ((bt (al2 w43 _ _) hb).mono HB43.out.size))
          clear hb
          go_wp2_with fail
          refine (puts_lit w44 cb4 _ HP44.out HB44.out.size [2] (by decide) (by decide) ⟨[], [(2, some 2)], [(3, none)], [], 1, 0⟩ (by kernel_rfl)).mono ?_
          rintro e w45 ⟨rfl, hp, hb⟩
          have HP45 := Lib.hid (hp)
          have HB45 := Lib.hid (HB44.out.trans hb)
          clear hp hb
          go_wp2_with fail
          refine (rows_true _ cb4 _ (HP45.out.next (al2 w45 _ _)) [] [2] [3] [] _ _ _ _ 0 0 0 0 0 (ints_nil 0 _) (ints_at ((RowAt.new w45 3 (([2] : List Int).map I64)).alloc _)) (ints_at (row2 w45 _ (([3] : List Int).map I64))) (ints_nil 0 _) ⟨by kernel_rfl, by kernel_rfl, by kernel_rfl, by kernel_rfl, by kernel_rfl⟩).mono ?_
          rintro e w46 ⟨rfl, hb⟩
          have HP46 := Lib.hid ((HP45.out.next (al2 w45 _ _)).next hb)
          have HB46 := Lib.hid (HB45.out.trans ((bt (al2 w45 _ _) hb).mono HB45.out.size))
          clear hb
          go_wp2_with fail
          refine (puts_lit w46 cb4 _ HP46.out HB46.out.size [3] (by decide) (by decide) ⟨[], [(3, some 3)], [], [(2, none)], 1, 1⟩ (by kernel_rfl)).mono ?_
          rintro e w47 ⟨rfl, hp, hb⟩
          have HP47 := Lib.hid (hp)
          have HB47 := Lib.hid (HB46.out.trans hb)
          clear hp hb
          go_wp2_with fail
          refine (rows_true _ cb4 _ (HP47.out.next (al2 w47 _ _)) [] [3] [] [2] _ _ _ _ 1 0 0 0 0 (ints_nil 0 _) (ints_at ((RowAt.new w47 3 (([3] : List Int).map I64)).alloc _)) (ints_nil 0 _) (ints_at (row2 w47 _ (([2] : List Int).map I64))) ⟨by kernel_rfl, by kernel_rfl, by kernel_rfl, by kernel_rfl, by kernel_rfl⟩).mono ?_
          rintro e w48 ⟨rfl, hb⟩
          have HP48 := Lib.hid ((HP47.out.next (al2 w47 _ _)).next hb)
          have HB48 := Lib.hid (HB47.out.trans ((bt (al2 w47 _ _) hb).mono HB47.out.size))
          clear hb
          as_aux_lemma =>
            go_wp2_with fail
            refine (copy_pa w48 cb4 _ HP48.out).mono ?_
            rintro e w49 ⟨cv, rfl, hv, hb⟩
            have HV0 := Lib.hid hv
            have HP49 := Lib.hid (HP48.out.next hb)
            have HB49 := Lib.hid (HB48.out.trans (hb.mono HB48.out.size))
            have hul : cb4 < w48.heap.size := by obtain ⟨l, hl⟩ := HP48.out.row; exact hl.lt
            clear hv hb
            go_wp2_with fail
            refine (clear_pb w49 cb4 _ HP49.out HB49.out.size).mono ?_
            rintro e w50 ⟨rfl, hp, hf⟩
            have HV1 := Lib.hid ((HV0.out.apart hf hul HP49.out.row).mono (A' := (· < w0.heap.size)) fun k hk => Nat.lt_of_lt_of_le hk HB48.out.size)
            have HP50 := Lib.hid hp
            have HB50 := Lib.hid (HB49.out.trans (Fr.below hf HB49.out.size fun k hk => by have := HP49.out.ge; omega))
            clear hp hf HV0
            go_wp2_with fail
            refine (rows_true _ cb4 _ (HP50.out.next (al0 w50 )) [] [] [] [] _ _ _ _ 0 0 0 0 0 (ints_nil 0 _) (ints_nil 0 _) (ints_nil 0 _) (ints_nil 0 _) ⟨by kernel_rfl, by kernel_rfl, by kernel_rfl, by kernel_rfl, by kernel_rfl⟩).mono ?_
            rintro e w51 ⟨rfl, hb⟩
            have HP51 := Lib.hid ((HP50.out.next (al0 w50 )).next hb)
            have HB51 := Lib.hid (HB50.out.trans ((bt (al0 w50 ) hb).mono HB50.out.size))
            have hbv := Lib.hid (bt (al0 w50) hb)
            clear hb
            have HPV := Lib.hid (HV1.out.next hbv.out)
            clear HP51
            have HP51 := HPV
            clear HPV HV1 hbv
            go_wp2_with fail
            refine (rows_true _ cv _ (HP51.out.next (al2 w51 _ _)) [] [3] [] [2] _ _ _ _ 1 0 0 0 0 (ints_nil 0 _) (ints_at ((RowAt.new w51 3 (([3] : List Int).map I64)).alloc _)) (ints_nil 0 _) (ints_at (row2 w51 _ (([2] : List Int).map I64))) ⟨by kernel_rfl, by kernel_rfl, by kernel_rfl, by kernel_rfl, by kernel_rfl⟩).mono ?_
            rintro e w52 ⟨rfl, hb⟩
            have HP52 := Lib.hid ((HP51.out.next (al2 w51 _ _)).next hb)
            have HB52 := Lib.hid (HB51.out.trans ((bt (al2 w51 _ _) hb).mono HB51.out.size))
            clear hb
            go_wp2_with fail
            refine (gets_true w52 cv _ HP52.out HB52.out.size 3 (by decide) (by decide) (by kernel_rfl) ⟨[], [(3, some 3)], [], [(2, none)], 1, 1⟩ (by kernel_rfl)).mono ?_
            rintro e w53 ⟨rfl, hp, hb⟩
            have HP53 := Lib.hid (hp)
            have HB53 := Lib.hid (HB52.out.trans hb)
            clear hp hb
            go_wp2_with fail
            refine (turns_any w53).mono ?_
            rintro e w54 ⟨rfl, hb⟩
            have HB54 := Lib.hid (HB53.out.trans (hb.mono HB53.out.size))
            clear hb
            go_wp2_with fail
            refine (nothing_any w54).mono ?_
            rintro e w55 ⟨rfl, hb⟩
            have HB55 := Lib.hid (HB54.out.trans (hb.mono HB54.out.size))
            clear hb
            go_wp2
            go_ret
            exact ⟨rfl, HB55.out⟩
end Go.Proofs.Ytefjpljjdjecjaa
