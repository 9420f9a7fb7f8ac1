/- Blocks of bytes are the same; gets, puts. -/
import Derived.Test.YtefjpljjdjecjaaWq
import Derived.ChangeKeysEq
namespace Go.Proofs.Ytefjpljjdjecjaa
open Go.RowKit
theorem plain5 : Try.prog.plainKey 5 = true := by kernel_rfl
theorem cells5 : Try.prog.cellsOf 5 = 1 := by kernel_rfl
theorem items_same (w : World) (d : Nat) (xs ys : Array Value) : ∀ is : List Nat, (∀ i ∈ is, ∃ z, xs[i]? = some (.int .u8 z) ∧ ys[i]? = some (.int .u8 z)) → (Op.eqItems (d + 1) 5 1 xs ys is).run Try.prog w = .ok true w
  | [], _ => by simp [Op.eqItems]
  | i :: is, h => by
    obtain ⟨z, h1, h2⟩ := h i (List.mem_cons_self ..)
    have p1 := run_part_plain (P := Try.prog) w plain5 h1
    have p2 := run_part_plain (P := Try.prog) w plain5 h2
    have p3 : (Op.equalIn (d + 1) 5 (.int .u8 z) (.int .u8 z)).run Try.prog w = .ok (z == z) w := run_equalIn_int w d 5 .u8 .u8 z z Try.underlying5
    have ih := items_same w d xs ys is fun j hj => h j (List.mem_cons_of_mem _ hj)
    simp [Op.eqItems, Sem.run_bind, p1, p2, p3, ih]
theorem blk_get (c : Int) (i : Nat) (h1 : 0 < i) (h2 : i < 512) : (blk c).toArray[i]? = some (.int .u8 0) := by
  obtain ⟨j, rfl⟩ : ∃ j, i = j + 1 := ⟨i - 1, by omega⟩
  rw [List.getElem?_toArray]
  unfold blk
  rw [List.getElem?_cons_succ, List.getElem?_replicate, if_pos (by omega)]
theorem blk_zero (c : Int) : (blk c).toArray[0]? = some (.int .u8 c) := by
  rw [List.getElem?_toArray]; unfold blk; exact List.getElem?_cons_zero
theorem range_cons (n : Nat) : List.range (n + 1) = 0 :: (List.range n).map (· + 1) := List.range_succ_eq_map
theorem eq30 (w : World) (c d : Int) : (Op.equalIn 10000 30 (.agg (blk c).toArray) (.agg (blk d).toArray)).run Try.prog w = .ok (c == d) w := by
  obtain ⟨i, hi⟩ : ∃ i, Try.prog.info? 5 = some i := ⟨_, rfl⟩
  rw [run_equalIn_array w 9999 _ _ Try.underlying30 hi, cells5, range_cons 511]
  have p1 := run_part_plain (P := Try.prog) w plain5 (xs := (blk c).toArray) (blk_zero c)
  have p2 := run_part_plain (P := Try.prog) w plain5 (xs := (blk d).toArray) (blk_zero d)
  have p3 : (Op.equalIn (9998 + 1) 5 (.int .u8 c) (.int .u8 d)).run Try.prog w = .ok (c == d) w := run_equalIn_int w 9998 5 .u8 .u8 c d Try.underlying5
  have ih := items_same w 9998 (blk c).toArray (blk d).toArray ((List.range 511).map (· + 1)) fun j hj => by
    obtain ⟨k, hk, rfl⟩ := List.mem_map.1 hj
    have := List.mem_range.1 hk
    exact ⟨0, blk_get c _ (by omega) (by omega), blk_get d _ (by omega) (by omega)⟩
  generalize (List.range 511).map (· + 1) = is at ih ⊢
  simp only [Op.eqItems, Sem.run_bind, Nat.zero_mul, p1, p2, p3, Result.andThen_ok]
  by_cases e : c = d
  · subst e; simp [ih]
  · have : (c == d) = false := by simpa using e
    simp [this]
theorem built30c (c : Int) : Try.prog.built 30 [(0, .int .u8 c)] = some (blk c).toArray := by kernel_rfl
set_option maxHeartbeats 2000000 in
theorem rowsL_any {A : Nat → Prop} (w : World) (cb : Nat) (p : Pu) (h : PA A w cb p) (B1 B2 B3 B4 : Nat) (l1 l2 l3 l4 : List Int) (v1 v2 v3 v4 : Value) (t : Int) (i1 : IntsAt B1 l1 v1 w) (i2 : IntsAt B2 l2 v2 w) (i3 : IntsAt B3 l3 v3 w) (i4 : IntsAt B4 l4 v4 w) :
    Calls Try.prog 20 #[.pointer (some ⟨cb, 0, none⟩), v1, v2, v3, v4, .int .i64 t] w fun e w' => e = .returned (.bool (decide (ksP p.a = l1 ∧ ksP p.b = l2 ∧ ksP p.c = l3 ∧ ksP p.d = l4 ∧ p.target = t))) ∧ Below w.heap.size w w' := by
  have hw := h.wf
  have q1 := hw.h1; have q2 := hw.h2; have q3 := hw.h3; have q4 := hw.rm
  have la : (ksP p.a).length ≤ 100000 := by simp [ksP]; omega
  have lb : (ksP p.b).length ≤ 100000 := by simp [ksP]; omega
  have lc : (ksP p.c).length ≤ 100000 := by simp [ksP]; omega
  have ld : (ksP p.d).length ≤ 100000 := by simp [ksP]; omega
  have H := Lib.hid h
  have I1 := Lib.hid i1
  have I2 := Lib.hid i2
  have I3 := Lib.hid i3
  have I4 := Lib.hid i4
  clear h i1 i2 i3 i4 hw q1 q2 q3 q4
  go_enter Try.func20, Try.ntmps20
  go_wp2_with fail
  refine (rows_pa w cb p H.out).mono ?_
  rintro e w1 ⟨v, rfl, ⟨a, b, c, d, rfl, j1, j2, j3, j4⟩, hb⟩
  have J1 := Lib.hid j1
  have J2 := Lib.hid j2
  have J3 := Lib.hid j3
  have J4 := Lib.hid j4
  have HB := Lib.hid hb
  clear j1 j2 j3 j4 hb
  go_wp2_with fail
  refine (same_any w1 _ _ _ _ _ _ J1.out (I1.out.next HB.out) la).mono ?_
  rintro e w2 ⟨rfl, hb⟩
  have HB2 := Lib.hid (bt HB.out hb)
  have HB12 := Lib.hid hb
  clear hb
  by_cases c1 : ksP p.a = l1
  · rw [show decide (ksP p.a = l1) = true from by simp [c1]]
    go_wp2_with fail
    refine (same_any _ _ _ _ _ _ _ (J2.out.next HB12.out) (I2.out.next HB2.out) lb).mono ?_
    rintro e w3 ⟨rfl, hb⟩
    have HB3 := Lib.hid (bt HB2.out hb)
    have HB13 := Lib.hid (bt HB12.out hb)
    clear hb
    by_cases c2 : ksP p.b = l2
    · rw [show decide (ksP p.b = l2) = true from by simp [c2]]
      go_wp2_with fail
      refine (same_any _ _ _ _ _ _ _ (J3.out.next HB13.out) (I3.out.next HB3.out) lc).mono ?_
      rintro e w4 ⟨rfl, hb⟩
      have HB4 := Lib.hid (bt HB3.out hb)
      have HB14 := Lib.hid (bt HB13.out hb)
      clear hb
      by_cases c3 : ksP p.c = l3
      · rw [show decide (ksP p.c = l3) = true from by simp [c3]]
        go_wp2_with fail
        refine (same_any _ _ _ _ _ _ _ (J4.out.next HB14.out) (I4.out.next HB4.out) ld).mono ?_
        rintro e w5 ⟨rfl, hb⟩
        have HB5 := Lib.hid (bt HB4.out hb)
        have HB15 := Lib.hid (bt HB14.out hb)
        clear hb
        by_cases c4 : ksP p.d = l4
        · rw [show decide (ksP p.d = l4) = true from by simp [c4]]
          go_wp2_with fail
          refine (target_pa _ cb p (H.out.next HB5.out)).mono ?_
          rintro e w6 ⟨rfl, rfl⟩
          go_wp2
          go_ret
          refine ⟨?_, HB5.out⟩
          by_cases c5 : p.target = t
          · simp [c1, c2, c3, c4, c5]
          · simp [c1, c2, c3, c4, c5]
        · rw [show decide (ksP p.d = l4) = false from by simp [c4]]
          go_wp2
          go_ret
          exact ⟨by simp [c4], HB5.out⟩
      · rw [show decide (ksP p.c = l3) = false from by simp [c3]]
        go_wp2
        go_ret
        exact ⟨by simp [c3], HB4.out⟩
    · rw [show decide (ksP p.b = l2) = false from by simp [c2]]
      go_wp2
      go_ret
      exact ⟨by simp [c2], HB3.out⟩
  · rw [show decide (ksP p.a = l1) = false from by simp [c1]]
    go_wp2
    go_ret
    exact ⟨by simp [c1], HB2.out⟩
section
variable {P : Program} {w : World} {ops : Array Oper} {rest : List Oper} {o : Oper} {a : Act} {Q : Exit → Act → World → Prop}
/-- A whole row loaded, guarded or not. -/
theorem wpList_loadR {x : Operand} {g : Nat} {v : List Value} {T : TypeId} (hw : Region.wanted o (yielded ops a.tmps) = true) (ho : o.op = .load T x) (hx : a.eval x = .pointer (some ⟨g, 0, none⟩)) (hr : (loadVar T ⟨g, 0, none⟩).run P w = .ok (.agg v.toArray) w)
    (h : wpList P ops Q rest (a.put o.dst (.agg v.toArray)) w) : wpList P ops Q (o :: rest) a w := by
  refine BigFrame.wpList_want hw fun K hK => ?_
  unfold Oper.wp execOp
  simp only [ho, hx, Instr.loadAt, Instr.sureAddr, Sem.run_bind, Sem.run_pure, Result.andThen_ok, hr]
  exact hK _ _ h
/-- A value built, guarded or not. -/
theorem wpList_buildR {t : TypeId} {parts : Array (Nat × Operand)} {v : List Value} (hw : Region.wanted o (yielded ops a.tmps) = true) (ho : o.op = .build t parts) (l : List (Nat × Value)) (hl : (parts.map fun (i, x) => (i, a.eval x)).toList = l) (hb : P.built t l = some v.toArray)
    (h : wpList P ops Q rest (a.put o.dst (.agg v.toArray)) w) : wpList P ops Q (o :: rest) a w := by
  refine BigFrame.wpList_want hw fun K hK => ?_
  unfold Oper.wp execOp
  simp only [ho, Sem.run_bind, run_build w t _ v.toArray (hl ▸ hb), Result.andThen_ok]
  exact hK _ _ h
/-- Two values compared, guarded or not. -/
theorem wpList_eqlR {t : TypeId} {op : BinOp} {x y : Operand} {u v : List Value} {b : Bool} {t2 : TypeId} (hw : Region.wanted o (yielded ops a.tmps) = true) (ho : o.op = .binOp op t x y t2) (hx : a.eval x = .agg u.toArray) (hy : a.eval y = .agg v.toArray) (hg : (eqGuard op t x y (.agg u.toArray) (.agg v.toArray)).run P w = .ok () w) (hr : (binOp op t (.agg u.toArray) (.agg v.toArray)).run P w = .ok (.bool b) w)
    (h : wpList P ops Q rest (a.put o.dst (.bool b)) w) : wpList P ops Q (o :: rest) a w := by
  refine BigFrame.wpList_want hw fun K hK => ?_
  unfold Oper.wp execOp
  simp only [ho, hx, hy, Sem.run_bind, Sem.run_pure, Result.andThen_ok, hg, hr]
  exact hK _ _ h
end
theorem guard30 (w : World) (op : BinOp) (x y : Operand) (u v : List Value) : (eqGuard op 30 x y (.agg u.toArray) (.agg v.toArray)).run Try.prog w = .ok () w := run_eqGuard_agg w op 30 x y _ _ (by kernel_rfl)
theorem eql30 {w : World} {u v : List Value} {b : Bool} (h : (Op.equalIn 10000 30 (.agg u.toArray) (.agg v.toArray)).run Try.prog w = .ok b w) : (binOp .eql 30 (.agg u.toArray) (.agg v.toArray)).run Try.prog w = .ok (.bool b) w := by
  rw [run_eql_struct, h]; rfl
theorem neq30 {w : World} {u v : List Value} {b : Bool} (h : (Op.equalIn 10000 30 (.agg u.toArray) (.agg v.toArray)).run Try.prog w = .ok b w) : (binOp .neq 30 (.agg u.toArray) (.agg v.toArray)).run Try.prog w = .ok (.bool (!b)) w := by
  rw [run_neq_struct, h]; rfl
set_option maxHeartbeats 2000000 in
theorem gets_at (w : World) (cb : Nat) (key : Int) (h0 : 0 ≤ key) (h1 : key < 256) (X Y Z : List Value) (bb : Bool) (z30 : ∀ w, (zeroValue 30).run Try.prog w = .ok (.agg Z.toArray) w) (hX : OneC X) (hZ : OneC Z) (hY : Try.prog.built 30 [(0, .int .u8 key)] = some Y.toArray)
    (heq : ∀ w, (Op.equalIn 10000 30 (.agg X.toArray) (.agg Y.toArray)).run Try.prog w = .ok bb w) (R : World → Prop) (hR : ∀ w w', R w → Below w.heap.size w w' → R w')
    (H : Calls Try.prog 12 #[.pointer (some ⟨cb, 0, none⟩), .int .i64 key] w fun e w' => e = .returned (.tuple #[.agg X.toArray, .int .i64 0]) ∧ R w') :
    Calls Try.prog 19 #[.pointer (some ⟨cb, 0, none⟩), .int .i64 key] w fun e w' => e = .returned (.bool bb) ∧ R w' := by
  have HH := Lib.hid H
  have HX := Lib.hid hX
  have HR := Lib.hid hR
  have HY := Lib.hid hY
  have HI : Hid ((Try.prog.info? 30).map (·.size) = some X.toArray.size) := Lib.hid (by rw [info30]; simp [hX.1])
  have HO : Hid (Z.toArray.size = X.toArray.size) := Lib.hid (by simp [hX.1, hZ.1])
  have HE := Lib.hid heq
  clear H hX hZ hR hY heq
  go_enter Try.func19, Try.ntmps19
  go_wp2_with fail
  refine HH.out.mono ?_
  rintro e w1 ⟨rfl, hr⟩
  have HRR := Lib.hid hr
  clear hr
  have hd : RowAt (w1.alloc (.cells Z.toArray 30)) w1.heap.size 30 Z := RowAt.new w1 30 _
  have HD := Lib.hid hd
  have HD2 := Lib.hid (hd.setRow (l' := X))
  clear hd
  go_wp2_with (first | (refine wpList_store_row rfl 30 (.tmp 5) (.tmp 11) rfl w1.heap.size X.toArray rfl rfl 30 Z.toArray HD.out HI.out HO.out HX.out.2 ?_) | (refine wpList_loadR (x := .tmp 5) rfl rfl rfl (load30 HD2.out HX.out.1) ?_) | (refine wpList_buildR (t := 30) (parts := #[(0, .tmp 18)]) (v := Y) rfl rfl [(0, .int .u8 key)] ?hl ?hbb ?_; (case hbb => with_reducible exact HY.out); (case hl => simp only [List.map_toArray, List.map_cons, List.map_nil]; rfl)) | (refine wpList_eqlR (x := .tmp 16) (y := .tmp 19) rfl rfl rfl rfl (guard30 _ _ _ _ _ _) (eql30 (HE.out _)) ?_))
  go_ret
  exact ⟨rfl, HR.out _ _ HRR.out (((Below.refl _ _).alloc (Nat.le_refl _) _).trans (below_setRow (Nat.le_refl _)))⟩
theorem Kp.next {A : Nat → Prop} {w w' w'' : World} (h : Kp A w w') (hb : Below w'.heap.size w' w'') : Kp A w w'' := Fr.trans h (Fr.of_below hb)
theorem gets_any {A : Nat → Prop} (w : World) (cb : Nat) (p : Pu) (h : PA A w cb p) (hA : ∀ k, A k → k < w.heap.size) (key c : Int) (h0 : 0 ≤ key) (h1 : key < 256) (hl : lookP p key = some c) :
    Calls Try.prog 19 #[.pointer (some ⟨cb, 0, none⟩), .int .i64 key] w fun e w' => e = .returned (.bool (c == key)) ∧ PA A w' cb (moveP p key (some c)) ∧ Kp A w w' :=
  gets_at w cb key h0 h1 (blk c) (blk key) (blk 0) _ zero30 (blk_one c) (blk_one 0) (built30c key) (fun w => eq30 w c key) (fun w' => PA A w' cb (moveP p key (some c)) ∧ Kp A w w') (fun _ _ hh hb => ⟨hh.1.next hb, hh.2.next hb⟩) (get_pa_some w cb p h hA key c hl)
end Go.Proofs.Ytefjpljjdjecjaa
