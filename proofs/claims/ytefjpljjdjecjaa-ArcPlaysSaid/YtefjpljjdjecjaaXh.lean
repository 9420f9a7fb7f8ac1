/- Clear; what is nobody's; nothing. -/
import Derived.Test.YtefjpljjdjecjaaXg
namespace Go.Proofs.Ytefjpljjdjecjaa
open Go.RowKit
theorem clear_nil (w : World) : Calls Try.prog 21 #[.pointer none] w fun e w' => e = .returned (.tuple #[]) ∧ w = w' := by
  go_enter Try.func21, Try.ntmps21
  go_wp2_with fail
  refine (none_nil w).mono ?_
  rintro e w1 ⟨rfl, rfl⟩
  go_wp2
  refine bodyPost_ret (results_none rfl _ _ _) rfl ?_
  exact ⟨rfl, rfl⟩
set_option maxHeartbeats 2000000 in
theorem clear_any (w : World) (cb : Nat) (s : Cs) (h : CA w cb s) : Calls Try.prog 21 #[.pointer (some ⟨cb, 0, none⟩)] w fun e w' => e = .returned (.tuple #[]) ∧ (∃ mb, CA w' cb ⟨emptyR, mb, s.room, 0⟩ ∧ w.heap.size ≤ mb) ∧ Fr (· = cb) w w' := by
  have c0 : w.cell? ⟨cb, 0, none⟩ = some (ptr (nx (s.R 0) none)) := h.ra.row.cell 0
  have f0 : w.frozen? ⟨cb, 0, none⟩ = false := h.ra.row.free 0
  have c1 : w.cell? ⟨cb, 1, none⟩ = some (ptr (lastB (s.R 0) none)) := h.ra.row.cell 1
  have f1 : w.frozen? ⟨cb, 1, none⟩ = false := h.ra.row.free 1
  have c2 : w.cell? ⟨cb, 2, none⟩ = some (.int .i64 (s.R 0).length) := h.ra.row.cell 2
  have f2 : w.frozen? ⟨cb, 2, none⟩ = false := h.ra.row.free 2
  have c3 : w.cell? ⟨cb, 3, none⟩ = some (ptr (nx (s.R 1) none)) := h.ra.row.cell 3
  have f3 : w.frozen? ⟨cb, 3, none⟩ = false := h.ra.row.free 3
  have c4 : w.cell? ⟨cb, 4, none⟩ = some (ptr (lastB (s.R 1) none)) := h.ra.row.cell 4
  have f4 : w.frozen? ⟨cb, 4, none⟩ = false := h.ra.row.free 4
  have c5 : w.cell? ⟨cb, 5, none⟩ = some (.int .i64 (s.R 1).length) := h.ra.row.cell 5
  have f5 : w.frozen? ⟨cb, 5, none⟩ = false := h.ra.row.free 5
  have c6 : w.cell? ⟨cb, 6, none⟩ = some (ptr (nx (s.R 2) none)) := h.ra.row.cell 6
  have f6 : w.frozen? ⟨cb, 6, none⟩ = false := h.ra.row.free 6
  have c7 : w.cell? ⟨cb, 7, none⟩ = some (ptr (lastB (s.R 2) none)) := h.ra.row.cell 7
  have f7 : w.frozen? ⟨cb, 7, none⟩ = false := h.ra.row.free 7
  have c8 : w.cell? ⟨cb, 8, none⟩ = some (.int .i64 (s.R 2).length) := h.ra.row.cell 8
  have f8 : w.frozen? ⟨cb, 8, none⟩ = false := h.ra.row.free 8
  have c9 : w.cell? ⟨cb, 9, none⟩ = some (ptr (nx (s.R 3) none)) := h.ra.row.cell 9
  have f9 : w.frozen? ⟨cb, 9, none⟩ = false := h.ra.row.free 9
  have c10 : w.cell? ⟨cb, 10, none⟩ = some (ptr (lastB (s.R 3) none)) := h.ra.row.cell 10
  have f10 : w.frozen? ⟨cb, 10, none⟩ = false := h.ra.row.free 10
  have c11 : w.cell? ⟨cb, 11, none⟩ = some (.int .i64 (s.R 3).length) := h.ra.row.cell 11
  have f11 : w.frozen? ⟨cb, 11, none⟩ = false := h.ra.row.free 11
  have c12 : w.cell? ⟨cb, 12, none⟩ = some (.map (some s.mb)) := h.ra.row.cell 12
  have f12 : w.frozen? ⟨cb, 12, none⟩ = false := h.ra.row.free 12
  have c14 : w.cell? ⟨cb, 14, none⟩ = some (.int .i64 s.target) := h.ra.row.cell 14
  have f14 : w.frozen? ⟨cb, 14, none⟩ = false := h.ra.row.free 14
  have cbl := h.ra.row.lt
  have H := Lib.hid h
  have hmk := make61
  clear h
  go_enter Try.func21, Try.ntmps21
  go_wp2_with fail
  refine (none_any w cb s H.out).mono ?_
  rintro e w1 ⟨rfl, rfl⟩
  go_wp2_with fail
  go_end0
  have hmd := MapAt.made ((((((((((((((w.setCell ⟨cb, 0, none⟩ (.pointer none)).setCell ⟨cb, 1, none⟩ (.pointer none)).setCell ⟨cb, 2, none⟩ (.int .i64 0)).setCell ⟨cb, 3, none⟩ (.pointer none)).setCell ⟨cb, 4, none⟩ (.pointer none)).setCell ⟨cb, 5, none⟩ (.int .i64 0)).setCell ⟨cb, 6, none⟩ (.pointer none)).setCell ⟨cb, 7, none⟩ (.pointer none)).setCell ⟨cb, 8, none⟩ (.int .i64 0)).setCell ⟨cb, 9, none⟩ (.pointer none)).setCell ⟨cb, 10, none⟩ (.pointer none)).setCell ⟨cb, 11, none⟩ (.int .i64 0)).setCell ⟨cb, 12, none⟩ (.map (some w.heap.size))).setCell ⟨cb, 14, none⟩ (.int .i64 0))
  rw [show ((((((((((((((w.setCell ⟨cb, 0, none⟩ (.pointer none)).setCell ⟨cb, 1, none⟩ (.pointer none)).setCell ⟨cb, 2, none⟩ (.int .i64 0)).setCell ⟨cb, 3, none⟩ (.pointer none)).setCell ⟨cb, 4, none⟩ (.pointer none)).setCell ⟨cb, 5, none⟩ (.int .i64 0)).setCell ⟨cb, 6, none⟩ (.pointer none)).setCell ⟨cb, 7, none⟩ (.pointer none)).setCell ⟨cb, 8, none⟩ (.int .i64 0)).setCell ⟨cb, 9, none⟩ (.pointer none)).setCell ⟨cb, 10, none⟩ (.pointer none)).setCell ⟨cb, 11, none⟩ (.int .i64 0)).setCell ⟨cb, 12, none⟩ (.map (some w.heap.size))).setCell ⟨cb, 14, none⟩ (.int .i64 0)).heap.size = w.heap.size from by simp] at hmd
  have hne : w.heap.size ≠ cb := by omega
  refine ⟨rfl, ⟨w.heap.size, newT_ca _ cb w.heap.size s.room 0 H.out.rm.1 H.out.rm.2 (Int.le_refl _) (by have := H.out.rm.1; omega) (((((((((((((((H.out.ra.row.set 0 _).set 1 _).set 2 _).set 3 _).set 4 _).set 5 _).set 6 _).set 7 _).set 8 _).set 9 _).set 10 _).set 11 _).set 12 _).set 14 _).alloc _) hmd hne, Nat.le_refl _⟩, (((((((((((((((Fr.refl (· = cb) w).setCell (b := cb) (i := 0) rfl _).setCell (b := cb) (i := 1) rfl _).setCell (b := cb) (i := 2) rfl _).setCell (b := cb) (i := 3) rfl _).setCell (b := cb) (i := 4) rfl _).setCell (b := cb) (i := 5) rfl _).setCell (b := cb) (i := 6) rfl _).setCell (b := cb) (i := 7) rfl _).setCell (b := cb) (i := 8) rfl _).setCell (b := cb) (i := 9) rfl _).setCell (b := cb) (i := 10) rfl _).setCell (b := cb) (i := 11) rfl _).setCell (b := cb) (i := 12) rfl _).setCell (b := cb) (i := 14) rfl _).alloc _⟩
theorem CA.fr2 {M : Nat → Prop} {w w' : World} {cb : Nat} {s : Cs} (h : CA w cb s) (hf : Fr M w w') (ho : ∀ k, Own cb s k → ¬ M k) (hd : ∀ d v, RowAt w d 30 v → ¬ M d) : CA w' cb s :=
  ⟨h.ra.fr hf (ho cb (.inl rfl)) (fun x hx => ho x.b (.inr (.inr ⟨x, hx, rfl⟩))), h.mp.fr hf (ho s.mb (.inr (.inl rfl))), h.nk, h.mc, h.mi, fun x hx d e => by
    obtain ⟨g1, g2⟩ := h.dt x hx d e
    exact ⟨g1.fr hf (hd d _ g1), g2⟩, h.rm, h.tg⟩
theorem PA.row {A : Nat → Prop} {w : World} {cb : Nat} {p : Pu} (h : PA A w cb p) : ∃ l, RowAt w cb 69 l := by
  obtain ⟨s, h1, _⟩ := h; exact ⟨_, h1.ra.row⟩
/-- What is done to one cache alone leaves another one, and blocks may be in both. -/
theorem PA.apart {A : Nat → Prop} {w w' : World} {cb cb2 : Nat} {p : Pu} (h : PA A w cb2 p) (hf : Fr (· = cb) w w') (hA : A cb) (hr : ∃ l, RowAt w cb 69 l) : PA A w' cb2 p := by
  obtain ⟨s, h1, h2, h3, h4, h5⟩ := h
  refine ⟨s, h1.fr2 hf (fun k hk e => h5 cb hA (by rw [← show k = cb from e]; exact hk)) (fun d v hv e => ?_), h2, h3, h4, h5⟩
  subst e
  obtain ⟨l, hl⟩ := hr
  unfold RowAt at hl hv
  rw [hl] at hv
  simp at hv
theorem clear_pb {B : Nat} (w : World) (cb : Nat) (p : Pu) (h : PB B w cb p) (hB : B ≤ w.heap.size) :
    Calls Try.prog 21 #[.pointer (some ⟨cb, 0, none⟩)] w fun e w' => e = .returned (.tuple #[]) ∧ PB B w' cb (newPu p.room) ∧ Fr (· = cb) w w' := by
  obtain ⟨s, h1, rfl, h3, h4, h5⟩ := h
  refine (clear_any w cb s h1).mono ?_
  rintro e w' ⟨rfl, ⟨mb, hc, hm⟩, hf⟩
  have hr := h1.rm
  refine ⟨rfl, ⟨_, hc, rfl, fun x hx => by simp [emptyR, allI] at hx, ⟨by simp [newPu], by simp [newPu], by simp [newPu], by simp [newPu], ?_, ?_, ?_, hr, ⟨by simp [newPu], by simp [newPu, absS]; omega⟩⟩, ?_⟩, hf⟩
  · simp [newPu, absS]; omega
  · simp [newPu, absS]; omega
  · simp [newPu, absS]; omega
  · rintro k hk (e | e | ⟨x, hx, _⟩)
    · exact h5 k hk (.inl e)
    · simp at e; omega
    · simp [emptyR, allI] at hx
theorem copy_nil (w : World) : Calls Try.prog 17 #[.pointer none] w fun e w' => e = .returned (.pointer none) ∧ w = w' := by
  go_enter Try.func17, Try.ntmps17
  go_wp2
  go_ret
  exact ⟨rfl, rfl⟩
theorem target_nil (w : World) : Calls Try.prog 14 #[.pointer none] w fun e w' => e = .returned (.int .i64 0) ∧ w = w' := by
  go_enter Try.func14, Try.ntmps14
  go_wp2_with fail
  refine (none_nil w).mono ?_
  rintro e w1 ⟨rfl, rfl⟩
  go_wp2
  go_ret
  exact ⟨rfl, rfl⟩
theorem drop_nil (w : World) (key : Int) : Calls Try.prog 16 #[.pointer none, .int .i64 key] w fun e w' => e = .returned (.int .i64 2) ∧ w = w' := by
  go_enter Try.func16, Try.ntmps16
  go_wp2_with fail
  refine (none_nil w).mono ?_
  rintro e w1 ⟨rfl, rfl⟩
  go_wp2
  go_ret
  exact ⟨rfl, rfl⟩
theorem put_nil (w : World) (key : Int) (v : List Value) : Calls Try.prog 11 #[.pointer none, .int .i64 key, .agg v.toArray] w fun e w' => e = .returned (.int .i64 2) ∧ Below w.heap.size w w' := by
  go_enter Try.func11, Try.ntmps11
  go_wp2_with fail
  refine (none_nil _).mono ?_
  rintro e w1 ⟨rfl, rfl⟩
  go_wp2
  go_ret
  exact ⟨rfl, (Below.refl _ _).alloc (Nat.le_refl _) _⟩
theorem rows_nil (w : World) : Calls Try.prog 13 #[.pointer none] w fun e w' => e = .returned (.tuple #[.slice none 0 0, .slice none 0 0, .slice none 0 0, .slice none 0 0]) ∧ w = w' := by
  go_enter Try.func13, Try.ntmps13
  go_wp2_with fail
  refine (none_nil w).mono ?_
  rintro e w1 ⟨rfl, rfl⟩
  go_wp2
  refine bodyPost_ret (by simp [results, Try.results13, go_sem]; rfl) rfl ?_
  exact ⟨rfl, rfl⟩
set_option maxHeartbeats 1000000 in
theorem get_nil (Z : List Value) (z30 : ∀ w, (zeroValue 30).run Try.prog w = .ok (.agg Z.toArray) w) (b30 : Try.prog.built 30 [] = some Z.toArray) (HZ : Hid (OneC Z)) (w : World) (key : Int) :
    Calls Try.prog 12 #[.pointer none, .int .i64 key] w fun e w' => e = .returned (.tuple #[.agg Z.toArray, .int .i64 2]) ∧ Below w.heap.size w w' := by
  have HA := Lib.hid ((Below.refl w.heap.size w).alloc (Nat.le_refl _) (.cells Z.toArray 30))
  have HD := Lib.hid (RowAt.new w 30 Z)
  have HB30 : Hid ((Try.prog.built 30 []).isSome = true) := Lib.hid (by rw [b30]; rfl)
  have HB31 : Hid ((Try.prog.built 30 []).getD #[] = Z.toArray) := Lib.hid (by rw [b30]; rfl)
  clear b30
  go_enter Try.func12, Try.ntmps12
  go_wp2_with fail
  refine (none_nil _).mono ?_
  rintro e w1 ⟨rfl, rfl⟩
  go_wp2_with (first | (refine wpList_build rfl 30 #[] rfl HB30.out ?_; rw [HB31.out]) | (refine wpList_store_row rfl 30 (.tmp 4) (.tmp 9) rfl w.heap.size Z.toArray rfl rfl 30 Z.toArray HD.out (by rw [info30]; simp [HZ.out.1]) rfl HZ.out.2 ?_))
  refine bodyPost_ret (results_ct rfl _ _ w.heap.size Z _ rfl rfl HD.out.setRow HZ.out.1) rfl ?_
  exact ⟨rfl, HA.out.trans (below_setRow (Nat.le_refl _))⟩
set_option maxHeartbeats 1000000 in
theorem rowsL_nil (w : World) : Calls Try.prog 20 #[.pointer none, .slice none 0 0, .slice none 0 0, .slice none 0 0, .slice none 0 0, .int .i64 0] w fun e w' => e = .returned (.bool true) ∧ Below w.heap.size w w' := by
  go_enter Try.func20, Try.ntmps20
  go_wp2_with fail
  refine (rows_nil w).mono ?_
  rintro e w1 ⟨rfl, rfl⟩
  go_wp2_with fail
  refine (same_any w 0 0 [] [] _ _ (ints_nil 0 _) (ints_nil 0 _) (by decide)).mono ?_
  rintro e w1 ⟨rfl, hb1⟩
  have HB1 := Lib.hid hb1
  clear hb1
  rw [show decide (([] : List Int) = []) = true from rfl]
  go_wp2_with fail
  refine (same_any w1 0 0 [] [] _ _ (ints_nil 0 _) (ints_nil 0 _) (by decide)).mono ?_
  rintro e w2 ⟨rfl, hb1⟩
  have HB2 := Lib.hid (bt HB1.out hb1)
  clear hb1
  rw [show decide (([] : List Int) = []) = true from rfl]
  go_wp2_with fail
  refine (same_any w2 0 0 [] [] _ _ (ints_nil 0 _) (ints_nil 0 _) (by decide)).mono ?_
  rintro e w3 ⟨rfl, hb1⟩
  have HB3 := Lib.hid (bt HB2.out hb1)
  clear hb1
  rw [show decide (([] : List Int) = []) = true from rfl]
  go_wp2_with fail
  refine (same_any w3 0 0 [] [] _ _ (ints_nil 0 _) (ints_nil 0 _) (by decide)).mono ?_
  rintro e w4 ⟨rfl, hb1⟩
  have HB4 := Lib.hid (bt HB3.out hb1)
  clear hb1
  rw [show decide (([] : List Int) = []) = true from rfl]
  go_wp2_with fail
  refine (target_nil w4).mono ?_
  rintro e w5 ⟨rfl, rfl⟩
  go_wp2
  go_ret
  exact ⟨rfl, HB4.out⟩
set_option maxHeartbeats 2000000 in
theorem nothing_at (Z : List Value) (z30 : ∀ w, (zeroValue 30).run Try.prog w = .ok (.agg Z.toArray) w) (b30 : Try.prog.built 30 [] = some Z.toArray) (HZ : Hid (OneC Z)) (w : World) : Calls Try.prog 23 #[] w fun e w' => e = .returned (.bool true) ∧ Below w.heap.size w w' := by
  have HG := Lib.hid (get_nil Z z30 b30 HZ w 1)
  have HB30 : Hid (Try.prog.built 30 [] = some Z.toArray) := Lib.hid b30
  clear b30
  go_enter Try.func23, Try.ntmps23
  go_wp2_with fail
  refine (clear_nil w).mono ?_
  rintro e w1 ⟨rfl, rfl⟩
  go_wp2_with fail
  refine HG.out.mono ?_
  rintro e w1 ⟨rfl, hb⟩
  have HB1 := Lib.hid hb
  have HD := Lib.hid (RowAt.new w1 30 Z)
  have hb5 : Below w1.heap.size w1 ((w1.alloc (.cells Z.toArray 30)).setRow w1.heap.size Z.toArray) := ((Below.refl _ _).alloc (Nat.le_refl _) _).trans (below_setRow (Nat.le_refl _))
  have HB2 := Lib.hid (bt hb hb5)
  clear hb hb5
  go_wp2_with (first | (refine wpList_store_row rfl 30 (.tmp 2) (.tmp 9) rfl w1.heap.size Z.toArray rfl rfl 30 Z.toArray HD.out (by rw [info30]; simp [HZ.out.1]) rfl HZ.out.2 ?_) | (refine wpList_buildR (t := 30) (parts := #[]) (v := Z) rfl rfl [] rfl HB30.out ?_))
  generalize (w1.alloc (.cells Z.toArray 30)).setRow w1.heap.size Z.toArray = w2 at *
  obtain ⟨b9, hb9⟩ : ∃ b, b = w1.heap.size := ⟨_, rfl⟩
  rw [← hb9]
  clear hb9 HD
  refine (put_nil w2 1 Z).mono ?_
  rintro e w3 ⟨rfl, hb⟩
  have HB3 := Lib.hid (bt HB2.out hb)
  clear hb
  go_wp2_with fail
  refine (drop_nil w3 1).mono ?_
  rintro e w4 ⟨rfl, rfl⟩
  go_wp2_with fail
  refine (rowsL_nil w3).mono ?_
  rintro e w4 ⟨rfl, hb⟩
  have HB4 := Lib.hid (bt HB3.out hb)
  clear hb
  go_wp2_with fail
  refine (copy_nil w4).mono ?_
  rintro e w5 ⟨rfl, rfl⟩
  go_wp2
  go_ret
  exact ⟨rfl, HB4.out⟩
theorem nothing_any (w : World) : Calls Try.prog 23 #[] w fun e w' => e = .returned (.bool true) ∧ Below w.heap.size w w' := nothing_at (blk 0) zero30 built30 (Lib.hid (blk_one 0)) w
end Go.Proofs.Ytefjpljjdjecjaa
