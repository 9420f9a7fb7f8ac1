/- works. -/
import Derived.Test.YtefjpljjdjecjaaWs
namespace Go.Proofs.Ytefjpljjdjecjaa
open Go.RowKit
theorem ints_nil (B : Nat) (w : World) : IntsAt B [] (.slice none 0 0) w := ⟨none, 0, rfl, SliceAt.nil _ _, fun _ => rfl, fun _ h => by cases h⟩
theorem ints_new (w : World) (l : List Int) (t : TypeId) : IntsAt w.heap.size l (.slice (some ⟨w.heap.size, 0, none⟩) l.length l.length) (w.alloc (.cells (l.map I64).toArray t)) := by
  refine ⟨_, _, rfl, ?_, (fun h => by cases h), (fun x hx => by cases hx; exact Nat.le_refl _)⟩
  have := SliceAt.row (RowAt.new w t (l.map I64))
  rwa [List.length_map] at this
/-- A cache that touches nothing below B. -/
abbrev PB (B : Nat) (w : World) (cb : Nat) (p : Pu) : Prop := PA (· < B) w cb p
theorem PA.one {A : Nat → Prop} {w w' : World} {cb : Nat} {p : Pu} (h : PA A w cb p) (hb : Below w.heap.size w w') (b : Nat) (hbk : w.heap.size ≤ b) : PA (fun k => A k ∨ k = b) w' cb p :=
  (h.add hb).mono fun k hk => hk.imp id fun e => by omega
theorem puts_lit {B : Nat} (W : World) (cb : Nat) (p : Pu) (h : PB B W cb p) (hB : B ≤ W.heap.size) (keys : List Int) (hk : ∀ k ∈ keys, 0 ≤ k ∧ k < 256) (hn : keys.length ≤ 1000) (p' : Pu) (hp : putsP p keys = p') :
    Calls Try.prog 18 #[.pointer (some ⟨cb, 0, none⟩), .slice (some ⟨W.heap.size, 0, none⟩) keys.length keys.length] (W.alloc (.cells (keys.map I64).toArray 3)) fun e w' => e = .returned (.bool true) ∧ PB B w' cb p' ∧ Below B W w' := by
  subst hp
  have hb := (Below.refl W.heap.size W).alloc (Nat.le_refl _) (.cells (keys.map I64).toArray 3)
  have h1 := h.one hb W.heap.size (Nat.le_refl _)
  refine (puts_any _ cb p h1 (fun k hk => ?_) _ keys _ (ints_new W keys 3) ?_ hk hn).mono ?_
  · have hs : (W.alloc (.cells (keys.map I64).toArray 3)).heap.size = W.heap.size + 1 := by simp
    rw [hs]
    rcases hk with hk | hk
    · have : k < B := hk
      omega
    · omega
  · rintro a n c e
    cases e
    exact .inr rfl
  · rintro e w' ⟨rfl, hp, hkp⟩
    refine ⟨rfl, hp.mono fun k hk => .inl hk, ?_⟩
    have h2 : Kp (· < B) (W.alloc (.cells (keys.map I64).toArray 3)) w' := Fr.mono hkp fun k _ hn hk => hn (.inl hk)
    exact (hb.mono hB).trans (Kp.below h2 (Nat.le_trans hB hb.size))
theorem rows_true {B : Nat} (w : World) (cb : Nat) (p : Pu) (h : PB B w cb p) (l1 l2 l3 l4 : List Int) (v1 v2 v3 v4 : Value) (t : Int) (B1 B2 B3 B4 : Nat) (i1 : IntsAt B1 l1 v1 w) (i2 : IntsAt B2 l2 v2 w) (i3 : IntsAt B3 l3 v3 w) (i4 : IntsAt B4 l4 v4 w) (hp : ksP p.a = l1 ∧ ksP p.b = l2 ∧ ksP p.c = l3 ∧ ksP p.d = l4 ∧ p.target = t) :
    Calls Try.prog 20 #[.pointer (some ⟨cb, 0, none⟩), v1, v2, v3, v4, .int .i64 t] w fun e w' => e = .returned (.bool true) ∧ Below w.heap.size w w' := by
  refine (rowsL_any w cb p h _ _ _ _ _ _ _ _ _ _ _ _ t i1 i2 i3 i4).mono ?_
  rintro e w' ⟨rfl, hb⟩
  exact ⟨by simp [hp], hb⟩
theorem gets_true {B : Nat} (w : World) (cb : Nat) (p : Pu) (h : PB B w cb p) (hB : B ≤ w.heap.size) (key : Int) (h0 : 0 ≤ key) (h1 : key < 256) (hl : lookP p key = some key) (p' : Pu) (hp : moveP p key (some key) = p') :
    Calls Try.prog 19 #[.pointer (some ⟨cb, 0, none⟩), .int .i64 key] w fun e w' => e = .returned (.bool true) ∧ PB B w' cb p' ∧ Below B w w' := by
  subst hp
  refine (gets_any w cb p h (fun k hk => Nat.lt_of_lt_of_le hk hB) key key h0 h1 hl).mono ?_
  rintro e w' ⟨rfl, hp, hk⟩
  exact ⟨by simp, hp, Kp.below hk hB⟩
theorem ints_at {w : World} {b : Nat} {l : List Int} (h : RowAt w b 3 (l.map I64)) : IntsAt 0 l (.slice (some ⟨b, 0, none⟩) l.length l.length) w := by
  refine ⟨_, _, rfl, ?_, (fun h => by cases h), fun _ _ => Nat.zero_le _⟩
  have := SliceAt.row h
  rwa [List.length_map] at this
theorem row2 (w : World) (o1 : Obj) (l : List Value) : RowAt ((w.alloc o1).alloc (.cells l.toArray 3)) (w.heap.size + 1) 3 l := by
  have := RowAt.new (w.alloc o1) 3 l
  rwa [show (w.alloc o1).heap.size = w.heap.size + 1 from by simp] at this
theorem row3 (w : World) (o1 o2 : Obj) (l : List Value) : RowAt (((w.alloc o1).alloc o2).alloc (.cells l.toArray 3)) (w.heap.size + 2) 3 l := by
  have := RowAt.new ((w.alloc o1).alloc o2) 3 l
  rwa [show ((w.alloc o1).alloc o2).heap.size = w.heap.size + 2 from by simp] at this
theorem row4 (w : World) (o1 o2 o3 : Obj) (l : List Value) : RowAt ((((w.alloc o1).alloc o2).alloc o3).alloc (.cells l.toArray 3)) (w.heap.size + 3) 3 l := by
  have := RowAt.new (((w.alloc o1).alloc o2).alloc o3) 3 l
  rwa [show (((w.alloc o1).alloc o2).alloc o3).heap.size = w.heap.size + 3 from by simp] at this
theorem al0 (w : World) : Below w.heap.size w w := Below.refl _ _
theorem al1 (w : World) (o1 : Obj) : Below w.heap.size w (w.alloc o1) := bA (Below.refl _ _) o1
theorem al2 (w : World) (o1 o2 : Obj) : Below w.heap.size w ((w.alloc o1).alloc o2) := bA (al1 w o1) o2
theorem al3 (w : World) (o1 o2 o3 : Obj) : Below w.heap.size w (((w.alloc o1).alloc o2).alloc o3) := bA (al2 w o1 o2) o3
theorem al4 (w : World) (o1 o2 o3 o4 : Obj) : Below w.heap.size w ((((w.alloc o1).alloc o2).alloc o3).alloc o4) := bA (al3 w o1 o2 o3) o4
set_option maxHeartbeats 4000000 in
theorem works_any (w : World) : Calls Try.prog 10 #[] w fun e w' => e = .returned (.bool true) ∧ Below w.heap.size w w' := by
  go_enter Try.func10, Try.ntmps10
  go_wp2_with fail
  refine (new_pa w 2 (by decide) (by decide)).mono ?_
  rintro e w1 ⟨cb, rfl, hp, hb⟩
  have HP1 := Lib.hid hp
  have HB1 := Lib.hid hb
  clear hp hb
  go_wp2_with fail
  refine (puts_lit w1 cb _ HP1.out HB1.out.size [1, 2, 3] (by decide) (by decide) ⟨[(2, some 2), (3, some 3)], [], [], [], 2, 0⟩ (by kernel_rfl)).mono ?_
  rintro e w2 ⟨rfl, hp, hb⟩
  have HP2 := Lib.hid (hp)
  have HB2 := Lib.hid (HB1.out.trans hb)
  clear hp hb
  go_wp2_with fail
  refine (rows_true _ cb _ (HP2.out.next (al1 w2 _)) [2, 3] [] [] [] _ _ _ _ 0 0 0 0 0 (ints_at (RowAt.new w2 3 (([2, 3] : List Int).map I64))) (ints_nil 0 _) (ints_nil 0 _) (ints_nil 0 _) ⟨by kernel_rfl, by kernel_rfl, by kernel_rfl, by kernel_rfl, by kernel_rfl⟩).mono ?_
  rintro e w3 ⟨rfl, hb⟩
  have HP3 := Lib.hid ((HP2.out.next (al1 w2 _)).next hb)
  have HB3 := Lib.hid (HB2.out.trans ((bt (al1 w2 _) hb).mono HB2.out.size))
  clear hb
  go_wp2_with fail
  refine (gets_true w3 cb _ HP3.out HB3.out.size 2 (by decide) (by decide) (by kernel_rfl) ⟨[(3, some 3)], [(2, some 2)], [], [], 2, 0⟩ (by kernel_rfl)).mono ?_
  rintro e w4 ⟨rfl, hp, hb⟩
  have HP4 := Lib.hid (hp)
  have HB4 := Lib.hid (HB3.out.trans hb)
  clear hp hb
  go_wp2_with fail
  refine (rows_true _ cb _ (HP4.out.next (al2 w4 _ _)) [3] [2] [] [] _ _ _ _ 0 0 0 0 0 (ints_at ((RowAt.new w4 3 (([3] : List Int).map I64)).alloc _)) (ints_at (row2 w4 _ (([2] : List Int).map I64))) (ints_nil 0 _) (ints_nil 0 _) ⟨by kernel_rfl, by kernel_rfl, by kernel_rfl, by kernel_rfl, by kernel_rfl⟩).mono ?_
  rintro e w5 ⟨rfl, hb⟩
  have HP5 := Lib.hid ((HP4.out.next (al2 w4 _ _)).next hb)
  have HB5 := Lib.hid (HB4.out.trans ((bt (al2 w4 _ _) hb).mono HB4.out.size))
  clear hb
  go_wp2_with fail
  refine (puts_lit w5 cb _ HP5.out HB5.out.size [4] (by decide) (by decide) ⟨[(4, some 4)], [(2, some 2)], [(3, none)], [], 2, 0⟩ (by kernel_rfl)).mono ?_
  rintro e w6 ⟨rfl, hp, hb⟩
  have HP6 := Lib.hid (hp)
  have HB6 := Lib.hid (HB5.out.trans hb)
  clear hp hb
  go_wp2_with fail
  refine (rows_true _ cb _ (HP6.out.next (al3 w6 _ _ _)) [4] [2] [3] [] _ _ _ _ 0 0 0 0 0 (ints_at (((RowAt.new w6 3 (([4] : List Int).map I64)).alloc _).alloc _)) (ints_at ((row2 w6 _ (([2] : List Int).map I64)).alloc _)) (ints_at (row3 w6 _ _ (([3] : List Int).map I64))) (ints_nil 0 _) ⟨by kernel_rfl, by kernel_rfl, by kernel_rfl, by kernel_rfl, by kernel_rfl⟩).mono ?_
  rintro e w7 ⟨rfl, hb⟩
  have HP7 := Lib.hid ((HP6.out.next (al3 w6 _ _ _)).next hb)
  have HB7 := Lib.hid (HB6.out.trans ((bt (al3 w6 _ _ _) hb).mono HB6.out.size))
  clear hb
  go_wp2_with fail
  refine (puts_lit w7 cb _ HP7.out HB7.out.size [3] (by decide) (by decide) ⟨[(4, some 4)], [(3, some 3)], [], [(2, none)], 2, 1⟩ (by kernel_rfl)).mono ?_
  rintro e w8 ⟨rfl, hp, hb⟩
  have HP8 := Lib.hid (hp)
  have HB8 := Lib.hid (HB7.out.trans hb)
  clear hp hb
  go_wp2_with fail
  refine (rows_true _ cb _ (HP8.out.next (al3 w8 _ _ _)) [4] [3] [] [2] _ _ _ _ 1 0 0 0 0 (ints_at (((RowAt.new w8 3 (([4] : List Int).map I64)).alloc _).alloc _)) (ints_at ((row2 w8 _ (([3] : List Int).map I64)).alloc _)) (ints_nil 0 _) (ints_at (row3 w8 _ _ (([2] : List Int).map I64))) ⟨by kernel_rfl, by kernel_rfl, by kernel_rfl, by kernel_rfl, by kernel_rfl⟩).mono ?_
  rintro e w9 ⟨rfl, hb⟩
  have HP9 := Lib.hid ((HP8.out.next (al3 w8 _ _ _)).next hb)
  have HB9 := Lib.hid (HB8.out.trans ((bt (al3 w8 _ _ _) hb).mono HB8.out.size))
  clear hb
  go_wp2
  go_ret
  exact ⟨rfl, HB9.out⟩
end Go.Proofs.Ytefjpljjdjecjaa
