/- AttrParts walked, way by way: true at every input. -/
import Derived.Test.YtkdemfahabnbjaaWi
namespace Go.Proofs.Ytkdemfahabnbjaa
open Go.RowKit
set_option maxHeartbeats 4000000 in
theorem parts_n0_m0_z0 (m all : Int) (a : Option Addr) (len cap : Nat) (w : World) (hm : all ≤ 0) (h0 : len = 0) :
    Calls Try.prog 7 #[.int .i64 0, .int .i64 m, .int .i64 all, .slice a len cap] w fun e w' => e = .returned (.bool true) ∧ Below w.heap.size w w' := by
  subst h0
  have hd : decide ((1000 : Int) < ((0 : Nat) : Int)) = false := by simp
  go_enter Try.func7, Try.ntmps7
  go_wp2_with fail
  refine (awake_any _).mono ?_
  rintro e w1 ⟨rfl, hb⟩
  go_wp2_with fail
  go_ret
  exact ⟨rfl, hb⟩
set_option maxRecDepth 100000 in
set_option maxHeartbeats 4000000 in
theorem parts_n0_m0_z1 (m all : Int) (a : Option Addr) (len cap : Nat) (l : List Int) (w : World) (HI : Hid (IntsAt .i32 w a len l)) (hlen : len ≤ 1000) (HW : Hid (∀ x ∈ l, -2147483648 ≤ x ∧ x ≤ 2147483647)) (hm : all ≤ 0) (h0 : ((len : Int) == 0) = false) :
    Calls Try.prog 7 #[.int .i64 0, .int .i64 m, .int .i64 all, .slice a len cap] w fun e w' => e = .returned (.bool true) ∧ Below w.heap.size w w' := by
  have hd : decide ((1000 : Int) < (len : Int)) = false := by simp; omega
  go_enter Try.func7, Try.ntmps7
  go_wp2_with fail
  refine (awake_any _).mono ?_
  rintro e w1 ⟨rfl, hb⟩
  go_wp2_with fail
  obtain ⟨i0, hi, hz0, hz1, hz2⟩ := info_parts Try.info3
  have H1 := HI.out.next hb
  have HJ := Lib.hid H1
  clear H1
  obtain ⟨W, HW2⟩ : ∃ W, Hid (W = w1) := ⟨_, rfl⟩
  have EW := HW2.out
  clear HW2
  subst EW
  go_loopw [9, 10, 11, 12] (fun v mn mx i wr => ∃ k : Nat, k ≤ len ∧ i = .int .i64 k ∧ wr.ownsRow W.heap.size 3 1 v k ((q4 (l.take k)).map (Value.int .i64)) ∧ mn = .int .i64 (leastOf (q4 (l.take k))) ∧ mx = .int .i64 (mostOf (q4 (l.take k))) ∧ Below W.heap.size W wr) (fun _ _ _ i _ => len - (intOf i).toNat)
  case atStart => exact ⟨0, Nat.zero_le _, rfl, World.ownsRow_nil _ _ _ _, rfl, rfl, Below.refl _ _⟩
  case round =>
    obtain ⟨k, hk, rfl, hown, rfl, rfl, hb2⟩ := hrel
    by_cases hlt : k < len
    · rcases HJ.out.2 with h1 | ⟨b, off, rfl, hbs, hcell⟩
      · omega
      have hkl : k < l.length := by have := HI.out.1; omega
      have hxb := HW.out _ (mem_getD hkl)
      obtain ⟨x, hx⟩ : ∃ x, x = l.getD k 0 := ⟨_, rfl⟩
      have hck : wr.cell? ⟨b, off + k, none⟩ = some (.int .i32 x) := by rw [hb2.cell hbs, hx]; exact hcell k hlt
      rw [← hx] at hxb
      have HX := Lib.hid hx
      clear hx hcell hkl
      have hx1 := hxb.1
      have hx2 := hxb.2
      clear hxb
      have hsize := hb2.size
      go_wp2_with (at_builtin; refine wpList_append_own _ rfl (.tmp 62) (.tmp 64) 30 rfl W.heap.size 3 i0 (.int .i64 0) 1 8 Try.underlying30 hi hz0 hz1 hz2 rfl (by decide) _ _ _ rfl (hown.alloc _) ⟨wr.heap.size, 0, none⟩ 1 1 [.int .i64 (x / 4)] rfl rfl ?c1 ?c2 ?c3 ?c4 ?c5 ?_)
      case c1 =>
        intro j u hj
        match j, hj with
        | 0, hj => simp at hj; subst hj; simp [Addr.add]
      case c2 => intro u hu; simp at hu; subst hu; rfl
      case c3 => unfold maxLen; omega
      case c4 => omega
      case c5 => simp; omega
      intro v' w6 hown' hgrow _
      have hb6 : Below W.heap.size W w6 := (hb2.alloc hb2.size _).grown hgrow (by simp; omega) (fun g hg => by
        rcases hown.2 with ⟨e, _⟩ | ⟨g2, _, _, e, hg2, _⟩
        · rw [e] at hg; cases hg
        · rw [e] at hg; cases hg; exact hg2)
      clear hgrow hown hck hb2
      go_wp2
      go_roundw
      case rel =>
        have e4 : q4 (l.take (k + 1)) = q4 (l.take k) ++ [x / 4] := by rw [HX.out]; exact q4_take l k (by have := HI.out.1; omega)
        refine ⟨k + 1, by omega, by go_num, ?_, ?_, ?_, hb6⟩
        · rw [e4]; simpa using hown'
        · rw [e4, least_snoc]; congr 1; split <;> omega
        · rw [e4, most_snoc]; congr 1; split <;> omega
      case measure => simp [intOf]; omega
    · obtain rfl : k = len := by omega
      have hll : l.take k = l := List.take_of_length_le (by have := HI.out.1; omega)
      rw [hll] at hown ⊢
      have hpos : 0 < k := by have := h0; simp at this; omega
      obtain ⟨g, cap2, hv, hia⟩ := ints_of_owned hown hpos
      have hend := parts_end (l := l) (by intro h; have := HI.out.1; rw [h] at this; simp at this; omega) (by have := HI.out.1; omega) HW.out
      rw [hv]
      have HE := Lib.hid hend
      have HA := Lib.hid hia
      clear hend hia hv hown hll
      go_wp2_with fail
      refine (meanV _ k cap2 (q4 l) _ HA.out (by omega)).mono ?_
      rintro e w7 ⟨rfl, hb7⟩
      go_wp2_with fail
      refine (part_lit (leastOf (q4 l)) 1 _ _ rfl).mono ?_
      rintro e w8 ⟨rfl, hb8⟩
      go_wp2_with fail
      refine (less_lit _ _ false _ (by simpa using HE.out.1)).mono ?_
      rintro e w9 ⟨rfl, rfl⟩
      go_wp2_with fail
      refine (part_lit (mostOf (q4 l)) 1 _ _ rfl).mono ?_
      rintro e w10 ⟨rfl, hb10⟩
      have hbz := bt (bt (bt (bt hb hb2) hb7) hb8) hb10
      go_wp2_with fail
      refine (less_lit _ _ false _ (by simpa using HE.out.2.1)).mono ?_
      rintro e w11 ⟨rfl, rfl⟩
      by_cases heq : leastOf (q4 l) = mostOf (q4 l)
      · have hne : (leastOf (q4 l) != mostOf (q4 l)) = false := by simp [heq]
        have HF := Lib.hid (HE.out.2.2 heq)
        clear heq hb hb2 hb7 hb8 hb10
        go_wp2_with fail
        refine (part_lit (leastOf (q4 l)) 1 _ _ (by rw [← HF.out])).mono ?_
        rintro e w12 ⟨rfl, hb12⟩
        go_wp2_with fail
        go_ret
        exact ⟨rfl, bt hbz hb12⟩
      · have hne : (leastOf (q4 l) != mostOf (q4 l)) = true := by simp [heq]
        clear heq hb hb2 hb7 hb8 hb10
        go_wp2_with fail
        go_ret
        exact ⟨rfl, hbz⟩
set_option maxHeartbeats 4000000 in
theorem parts_n0_m1_z0 (m all : Int) (a : Option Addr) (len cap : Nat) (w : World) (hm0 : 0 < all) (hm : m < 0) (h0 : len = 0) :
    Calls Try.prog 7 #[.int .i64 0, .int .i64 m, .int .i64 all, .slice a len cap] w fun e w' => e = .returned (.bool true) ∧ Below w.heap.size w w' := by
  subst h0
  have hd : decide ((1000 : Int) < ((0 : Nat) : Int)) = false := by simp
  go_enter Try.func7, Try.ntmps7
  go_wp2_with fail
  refine (awake_any _).mono ?_
  rintro e w1 ⟨rfl, hb⟩
  go_wp2_with fail
  go_ret
  exact ⟨rfl, hb⟩
set_option maxRecDepth 100000 in
set_option maxHeartbeats 4000000 in
theorem parts_n0_m1_z1 (m all : Int) (a : Option Addr) (len cap : Nat) (l : List Int) (w : World) (HI : Hid (IntsAt .i32 w a len l)) (hlen : len ≤ 1000) (HW : Hid (∀ x ∈ l, -2147483648 ≤ x ∧ x ≤ 2147483647)) (hm0 : 0 < all) (hm : m < 0) (h0 : ((len : Int) == 0) = false) :
    Calls Try.prog 7 #[.int .i64 0, .int .i64 m, .int .i64 all, .slice a len cap] w fun e w' => e = .returned (.bool true) ∧ Below w.heap.size w w' := by
  have hd : decide ((1000 : Int) < (len : Int)) = false := by simp; omega
  go_enter Try.func7, Try.ntmps7
  go_wp2_with fail
  refine (awake_any _).mono ?_
  rintro e w1 ⟨rfl, hb⟩
  go_wp2_with fail
  obtain ⟨i0, hi, hz0, hz1, hz2⟩ := info_parts Try.info3
  have H1 := HI.out.next hb
  have HJ := Lib.hid H1
  clear H1
  obtain ⟨W, HW2⟩ : ∃ W, Hid (W = w1) := ⟨_, rfl⟩
  have EW := HW2.out
  clear HW2
  subst EW
  go_loopw [9, 10, 11, 12] (fun v mn mx i wr => ∃ k : Nat, k ≤ len ∧ i = .int .i64 k ∧ wr.ownsRow W.heap.size 3 1 v k ((q4 (l.take k)).map (Value.int .i64)) ∧ mn = .int .i64 (leastOf (q4 (l.take k))) ∧ mx = .int .i64 (mostOf (q4 (l.take k))) ∧ Below W.heap.size W wr) (fun _ _ _ i _ => len - (intOf i).toNat)
  case atStart => exact ⟨0, Nat.zero_le _, rfl, World.ownsRow_nil _ _ _ _, rfl, rfl, Below.refl _ _⟩
  case round =>
    obtain ⟨k, hk, rfl, hown, rfl, rfl, hb2⟩ := hrel
    by_cases hlt : k < len
    · rcases HJ.out.2 with h1 | ⟨b, off, rfl, hbs, hcell⟩
      · omega
      have hkl : k < l.length := by have := HI.out.1; omega
      have hxb := HW.out _ (mem_getD hkl)
      obtain ⟨x, hx⟩ : ∃ x, x = l.getD k 0 := ⟨_, rfl⟩
      have hck : wr.cell? ⟨b, off + k, none⟩ = some (.int .i32 x) := by rw [hb2.cell hbs, hx]; exact hcell k hlt
      rw [← hx] at hxb
      have HX := Lib.hid hx
      clear hx hcell hkl
      have hx1 := hxb.1
      have hx2 := hxb.2
      clear hxb
      have hsize := hb2.size
      go_wp2_with (at_builtin; refine wpList_append_own _ rfl (.tmp 62) (.tmp 64) 30 rfl W.heap.size 3 i0 (.int .i64 0) 1 8 Try.underlying30 hi hz0 hz1 hz2 rfl (by decide) _ _ _ rfl (hown.alloc _) ⟨wr.heap.size, 0, none⟩ 1 1 [.int .i64 (x / 4)] rfl rfl ?c1 ?c2 ?c3 ?c4 ?c5 ?_)
      case c1 =>
        intro j u hj
        match j, hj with
        | 0, hj => simp at hj; subst hj; simp [Addr.add]
      case c2 => intro u hu; simp at hu; subst hu; rfl
      case c3 => unfold maxLen; omega
      case c4 => omega
      case c5 => simp; omega
      intro v' w6 hown' hgrow _
      have hb6 : Below W.heap.size W w6 := (hb2.alloc hb2.size _).grown hgrow (by simp; omega) (fun g hg => by
        rcases hown.2 with ⟨e, _⟩ | ⟨g2, _, _, e, hg2, _⟩
        · rw [e] at hg; cases hg
        · rw [e] at hg; cases hg; exact hg2)
      clear hgrow hown hck hb2
      go_wp2
      go_roundw
      case rel =>
        have e4 : q4 (l.take (k + 1)) = q4 (l.take k) ++ [x / 4] := by rw [HX.out]; exact q4_take l k (by have := HI.out.1; omega)
        refine ⟨k + 1, by omega, by go_num, ?_, ?_, ?_, hb6⟩
        · rw [e4]; simpa using hown'
        · rw [e4, least_snoc]; congr 1; split <;> omega
        · rw [e4, most_snoc]; congr 1; split <;> omega
      case measure => simp [intOf]; omega
    · obtain rfl : k = len := by omega
      have hll : l.take k = l := List.take_of_length_le (by have := HI.out.1; omega)
      rw [hll] at hown ⊢
      have hpos : 0 < k := by have := h0; simp at this; omega
      obtain ⟨g, cap2, hv, hia⟩ := ints_of_owned hown hpos
      have hend := parts_end (l := l) (by intro h; have := HI.out.1; rw [h] at this; simp at this; omega) (by have := HI.out.1; omega) HW.out
      rw [hv]
      have HE := Lib.hid hend
      have HA := Lib.hid hia
      clear hend hia hv hown hll
      go_wp2_with fail
      refine (meanV _ k cap2 (q4 l) _ HA.out (by omega)).mono ?_
      rintro e w7 ⟨rfl, hb7⟩
      go_wp2_with fail
      refine (part_lit (leastOf (q4 l)) 1 _ _ rfl).mono ?_
      rintro e w8 ⟨rfl, hb8⟩
      go_wp2_with fail
      refine (less_lit _ _ false _ (by simpa using HE.out.1)).mono ?_
      rintro e w9 ⟨rfl, rfl⟩
      go_wp2_with fail
      refine (part_lit (mostOf (q4 l)) 1 _ _ rfl).mono ?_
      rintro e w10 ⟨rfl, hb10⟩
      have hbz := bt (bt (bt (bt hb hb2) hb7) hb8) hb10
      go_wp2_with fail
      refine (less_lit _ _ false _ (by simpa using HE.out.2.1)).mono ?_
      rintro e w11 ⟨rfl, rfl⟩
      by_cases heq : leastOf (q4 l) = mostOf (q4 l)
      · have hne : (leastOf (q4 l) != mostOf (q4 l)) = false := by simp [heq]
        have HF := Lib.hid (HE.out.2.2 heq)
        clear heq hb hb2 hb7 hb8 hb10
        go_wp2_with fail
        refine (part_lit (leastOf (q4 l)) 1 _ _ (by rw [← HF.out])).mono ?_
        rintro e w12 ⟨rfl, hb12⟩
        go_wp2_with fail
        go_ret
        exact ⟨rfl, bt hbz hb12⟩
      · have hne : (leastOf (q4 l) != mostOf (q4 l)) = true := by simp [heq]
        clear heq hb hb2 hb7 hb8 hb10
        go_wp2_with fail
        go_ret
        exact ⟨rfl, hbz⟩
set_option maxHeartbeats 4000000 in
theorem parts_n0_m2_z0 (m all : Int) (a : Option Addr) (len cap : Nat) (w : World) (hm0 : 0 < all) (hm : 0 ≤ m) (hm1 : Hid (JFl.lessB (JFl.partB m all) (JFl.partB 0 all) = false)) (h0 : len = 0) :
    Calls Try.prog 7 #[.int .i64 0, .int .i64 m, .int .i64 all, .slice a len cap] w fun e w' => e = .returned (.bool true) ∧ Below w.heap.size w w' := by
  subst h0
  have hd : decide ((1000 : Int) < ((0 : Nat) : Int)) = false := by simp
  go_enter Try.func7, Try.ntmps7
  go_wp2_with fail
  refine (awake_any _).mono ?_
  rintro e w1 ⟨rfl, hb⟩
  go_wp2_with fail
  refine (part_lit m all _ _ rfl).mono ?_
  rintro e w3 ⟨rfl, hb3⟩
  go_wp2_with fail
  refine (part_lit 0 all _ _ rfl).mono ?_
  rintro e w4 ⟨rfl, hb4⟩
  have hb := bt (bt hb hb3) hb4
  clear hb3 hb4
  go_wp2_with fail
  refine (less_lit _ _ false _ (by simpa using hm1.out)).mono ?_
  rintro e w5 ⟨rfl, rfl⟩
  go_wp2_with fail
  go_ret
  exact ⟨rfl, hb⟩
set_option maxRecDepth 100000 in
set_option maxHeartbeats 4000000 in
theorem parts_n0_m2_z1 (m all : Int) (a : Option Addr) (len cap : Nat) (l : List Int) (w : World) (HI : Hid (IntsAt .i32 w a len l)) (hlen : len ≤ 1000) (HW : Hid (∀ x ∈ l, -2147483648 ≤ x ∧ x ≤ 2147483647)) (hm0 : 0 < all) (hm : 0 ≤ m) (hm1 : Hid (JFl.lessB (JFl.partB m all) (JFl.partB 0 all) = false)) (h0 : ((len : Int) == 0) = false) :
    Calls Try.prog 7 #[.int .i64 0, .int .i64 m, .int .i64 all, .slice a len cap] w fun e w' => e = .returned (.bool true) ∧ Below w.heap.size w w' := by
  have hd : decide ((1000 : Int) < (len : Int)) = false := by simp; omega
  go_enter Try.func7, Try.ntmps7
  go_wp2_with fail
  refine (awake_any _).mono ?_
  rintro e w1 ⟨rfl, hb⟩
  go_wp2_with fail
  refine (part_lit m all _ _ rfl).mono ?_
  rintro e w3 ⟨rfl, hb3⟩
  go_wp2_with fail
  refine (part_lit 0 all _ _ rfl).mono ?_
  rintro e w4 ⟨rfl, hb4⟩
  have hb := bt (bt hb hb3) hb4
  clear hb3 hb4
  go_wp2_with fail
  refine (less_lit _ _ false _ (by simpa using hm1.out)).mono ?_
  rintro e w5 ⟨rfl, rfl⟩
  go_wp2_with fail
  obtain ⟨i0, hi, hz0, hz1, hz2⟩ := info_parts Try.info3
  have H1 := HI.out.next hb
  have HJ := Lib.hid H1
  clear H1
  obtain ⟨W, HW2⟩ : ∃ W, Hid (W = w4) := ⟨_, rfl⟩
  have EW := HW2.out
  clear HW2
  subst EW
  go_loopw [9, 10, 11, 12] (fun v mn mx i wr => ∃ k : Nat, k ≤ len ∧ i = .int .i64 k ∧ wr.ownsRow W.heap.size 3 1 v k ((q4 (l.take k)).map (Value.int .i64)) ∧ mn = .int .i64 (leastOf (q4 (l.take k))) ∧ mx = .int .i64 (mostOf (q4 (l.take k))) ∧ Below W.heap.size W wr) (fun _ _ _ i _ => len - (intOf i).toNat)
  case atStart => exact ⟨0, Nat.zero_le _, rfl, World.ownsRow_nil _ _ _ _, rfl, rfl, Below.refl _ _⟩
  case round =>
    obtain ⟨k, hk, rfl, hown, rfl, rfl, hb2⟩ := hrel
    by_cases hlt : k < len
    · rcases HJ.out.2 with h1 | ⟨b, off, rfl, hbs, hcell⟩
      · omega
      have hkl : k < l.length := by have := HI.out.1; omega
      have hxb := HW.out _ (mem_getD hkl)
      obtain ⟨x, hx⟩ : ∃ x, x = l.getD k 0 := ⟨_, rfl⟩
      have hck : wr.cell? ⟨b, off + k, none⟩ = some (.int .i32 x) := by rw [hb2.cell hbs, hx]; exact hcell k hlt
      rw [← hx] at hxb
      have HX := Lib.hid hx
      clear hx hcell hkl
      have hx1 := hxb.1
      have hx2 := hxb.2
      clear hxb
      have hsize := hb2.size
      go_wp2_with (at_builtin; refine wpList_append_own _ rfl (.tmp 62) (.tmp 64) 30 rfl W.heap.size 3 i0 (.int .i64 0) 1 8 Try.underlying30 hi hz0 hz1 hz2 rfl (by decide) _ _ _ rfl (hown.alloc _) ⟨wr.heap.size, 0, none⟩ 1 1 [.int .i64 (x / 4)] rfl rfl ?c1 ?c2 ?c3 ?c4 ?c5 ?_)
      case c1 =>
        intro j u hj
        match j, hj with
        | 0, hj => simp at hj; subst hj; simp [Addr.add]
      case c2 => intro u hu; simp at hu; subst hu; rfl
      case c3 => unfold maxLen; omega
      case c4 => omega
      case c5 => simp; omega
      intro v' w6 hown' hgrow _
      have hb6 : Below W.heap.size W w6 := (hb2.alloc hb2.size _).grown hgrow (by simp; omega) (fun g hg => by
        rcases hown.2 with ⟨e, _⟩ | ⟨g2, _, _, e, hg2, _⟩
        · rw [e] at hg; cases hg
        · rw [e] at hg; cases hg; exact hg2)
      clear hgrow hown hck hb2
      go_wp2
      go_roundw
      case rel =>
        have e4 : q4 (l.take (k + 1)) = q4 (l.take k) ++ [x / 4] := by rw [HX.out]; exact q4_take l k (by have := HI.out.1; omega)
        refine ⟨k + 1, by omega, by go_num, ?_, ?_, ?_, hb6⟩
        · rw [e4]; simpa using hown'
        · rw [e4, least_snoc]; congr 1; split <;> omega
        · rw [e4, most_snoc]; congr 1; split <;> omega
      case measure => simp [intOf]; omega
    · obtain rfl : k = len := by omega
      have hll : l.take k = l := List.take_of_length_le (by have := HI.out.1; omega)
      rw [hll] at hown ⊢
      have hpos : 0 < k := by have := h0; simp at this; omega
      obtain ⟨g, cap2, hv, hia⟩ := ints_of_owned hown hpos
      have hend := parts_end (l := l) (by intro h; have := HI.out.1; rw [h] at this; simp at this; omega) (by have := HI.out.1; omega) HW.out
      rw [hv]
      have HE := Lib.hid hend
      have HA := Lib.hid hia
      clear hend hia hv hown hll
      go_wp2_with fail
      refine (meanV _ k cap2 (q4 l) _ HA.out (by omega)).mono ?_
      rintro e w7 ⟨rfl, hb7⟩
      go_wp2_with fail
      refine (part_lit (leastOf (q4 l)) 1 _ _ rfl).mono ?_
      rintro e w8 ⟨rfl, hb8⟩
      go_wp2_with fail
      refine (less_lit _ _ false _ (by simpa using HE.out.1)).mono ?_
      rintro e w9 ⟨rfl, rfl⟩
      go_wp2_with fail
      refine (part_lit (mostOf (q4 l)) 1 _ _ rfl).mono ?_
      rintro e w10 ⟨rfl, hb10⟩
      have hbz := bt (bt (bt (bt hb hb2) hb7) hb8) hb10
      go_wp2_with fail
      refine (less_lit _ _ false _ (by simpa using HE.out.2.1)).mono ?_
      rintro e w11 ⟨rfl, rfl⟩
      by_cases heq : leastOf (q4 l) = mostOf (q4 l)
      · have hne : (leastOf (q4 l) != mostOf (q4 l)) = false := by simp [heq]
        have HF := Lib.hid (HE.out.2.2 heq)
        clear heq hb hb2 hb7 hb8 hb10
        go_wp2_with fail
        refine (part_lit (leastOf (q4 l)) 1 _ _ (by rw [← HF.out])).mono ?_
        rintro e w12 ⟨rfl, hb12⟩
        go_wp2_with fail
        go_ret
        exact ⟨rfl, bt hbz hb12⟩
      · have hne : (leastOf (q4 l) != mostOf (q4 l)) = true := by simp [heq]
        clear heq hb hb2 hb7 hb8 hb10
        go_wp2_with fail
        go_ret
        exact ⟨rfl, hbz⟩
set_option maxHeartbeats 4000000 in
theorem parts_n1_m0_z0 (n m all : Int) (a : Option Addr) (len cap : Nat) (w : World) (hn : (n != 0) = true) (hn1 : Hid (((JFl.partB n n : Nat) : Int) = 4607182418800017408)) (hm : all ≤ 0) (h0 : len = 0) :
    Calls Try.prog 7 #[.int .i64 n, .int .i64 m, .int .i64 all, .slice a len cap] w fun e w' => e = .returned (.bool true) ∧ Below w.heap.size w w' := by
  subst h0
  have hd : decide ((1000 : Int) < ((0 : Nat) : Int)) = false := by simp
  go_enter Try.func7, Try.ntmps7
  go_wp2_with fail
  refine (awake_any _).mono ?_
  rintro e w1 ⟨rfl, hb⟩
  go_wp2_with fail
  refine (part_lit n n 4607182418800017408 _ hn1.out).mono ?_
  rintro e w2 ⟨rfl, hb2⟩
  have hb := bt hb hb2
  clear hb2
  go_wp2_with fail
  go_ret
  exact ⟨rfl, hb⟩
set_option maxRecDepth 100000 in
set_option maxHeartbeats 4000000 in
theorem parts_n1_m0_z1 (n m all : Int) (a : Option Addr) (len cap : Nat) (l : List Int) (w : World) (HI : Hid (IntsAt .i32 w a len l)) (hlen : len ≤ 1000) (HW : Hid (∀ x ∈ l, -2147483648 ≤ x ∧ x ≤ 2147483647)) (hn : (n != 0) = true) (hn1 : Hid (((JFl.partB n n : Nat) : Int) = 4607182418800017408)) (hm : all ≤ 0) (h0 : ((len : Int) == 0) = false) :
    Calls Try.prog 7 #[.int .i64 n, .int .i64 m, .int .i64 all, .slice a len cap] w fun e w' => e = .returned (.bool true) ∧ Below w.heap.size w w' := by
  have hd : decide ((1000 : Int) < (len : Int)) = false := by simp; omega
  go_enter Try.func7, Try.ntmps7
  go_wp2_with fail
  refine (awake_any _).mono ?_
  rintro e w1 ⟨rfl, hb⟩
  go_wp2_with fail
  refine (part_lit n n 4607182418800017408 _ hn1.out).mono ?_
  rintro e w2 ⟨rfl, hb2⟩
  have hb := bt hb hb2
  clear hb2
  go_wp2_with fail
  obtain ⟨i0, hi, hz0, hz1, hz2⟩ := info_parts Try.info3
  have H1 := HI.out.next hb
  have HJ := Lib.hid H1
  clear H1
  obtain ⟨W, HW2⟩ : ∃ W, Hid (W = w2) := ⟨_, rfl⟩
  have EW := HW2.out
  clear HW2
  subst EW
  go_loopw [9, 10, 11, 12] (fun v mn mx i wr => ∃ k : Nat, k ≤ len ∧ i = .int .i64 k ∧ wr.ownsRow W.heap.size 3 1 v k ((q4 (l.take k)).map (Value.int .i64)) ∧ mn = .int .i64 (leastOf (q4 (l.take k))) ∧ mx = .int .i64 (mostOf (q4 (l.take k))) ∧ Below W.heap.size W wr) (fun _ _ _ i _ => len - (intOf i).toNat)
  case atStart => exact ⟨0, Nat.zero_le _, rfl, World.ownsRow_nil _ _ _ _, rfl, rfl, Below.refl _ _⟩
  case round =>
    obtain ⟨k, hk, rfl, hown, rfl, rfl, hb2⟩ := hrel
    by_cases hlt : k < len
    · rcases HJ.out.2 with h1 | ⟨b, off, rfl, hbs, hcell⟩
      · omega
      have hkl : k < l.length := by have := HI.out.1; omega
      have hxb := HW.out _ (mem_getD hkl)
      obtain ⟨x, hx⟩ : ∃ x, x = l.getD k 0 := ⟨_, rfl⟩
      have hck : wr.cell? ⟨b, off + k, none⟩ = some (.int .i32 x) := by rw [hb2.cell hbs, hx]; exact hcell k hlt
      rw [← hx] at hxb
      have HX := Lib.hid hx
      clear hx hcell hkl
      have hx1 := hxb.1
      have hx2 := hxb.2
      clear hxb
      have hsize := hb2.size
      go_wp2_with (at_builtin; refine wpList_append_own _ rfl (.tmp 62) (.tmp 64) 30 rfl W.heap.size 3 i0 (.int .i64 0) 1 8 Try.underlying30 hi hz0 hz1 hz2 rfl (by decide) _ _ _ rfl (hown.alloc _) ⟨wr.heap.size, 0, none⟩ 1 1 [.int .i64 (x / 4)] rfl rfl ?c1 ?c2 ?c3 ?c4 ?c5 ?_)
      case c1 =>
        intro j u hj
        match j, hj with
        | 0, hj => simp at hj; subst hj; simp [Addr.add]
      case c2 => intro u hu; simp at hu; subst hu; rfl
      case c3 => unfold maxLen; omega
      case c4 => omega
      case c5 => simp; omega
      intro v' w6 hown' hgrow _
      have hb6 : Below W.heap.size W w6 := (hb2.alloc hb2.size _).grown hgrow (by simp; omega) (fun g hg => by
        rcases hown.2 with ⟨e, _⟩ | ⟨g2, _, _, e, hg2, _⟩
        · rw [e] at hg; cases hg
        · rw [e] at hg; cases hg; exact hg2)
      clear hgrow hown hck hb2
      go_wp2
      go_roundw
      case rel =>
        have e4 : q4 (l.take (k + 1)) = q4 (l.take k) ++ [x / 4] := by rw [HX.out]; exact q4_take l k (by have := HI.out.1; omega)
        refine ⟨k + 1, by omega, by go_num, ?_, ?_, ?_, hb6⟩
        · rw [e4]; simpa using hown'
        · rw [e4, least_snoc]; congr 1; split <;> omega
        · rw [e4, most_snoc]; congr 1; split <;> omega
      case measure => simp [intOf]; omega
    · obtain rfl : k = len := by omega
      have hll : l.take k = l := List.take_of_length_le (by have := HI.out.1; omega)
      rw [hll] at hown ⊢
      have hpos : 0 < k := by have := h0; simp at this; omega
      obtain ⟨g, cap2, hv, hia⟩ := ints_of_owned hown hpos
      have hend := parts_end (l := l) (by intro h; have := HI.out.1; rw [h] at this; simp at this; omega) (by have := HI.out.1; omega) HW.out
      rw [hv]
      have HE := Lib.hid hend
      have HA := Lib.hid hia
      clear hend hia hv hown hll
      go_wp2_with fail
      refine (meanV _ k cap2 (q4 l) _ HA.out (by omega)).mono ?_
      rintro e w7 ⟨rfl, hb7⟩
      go_wp2_with fail
      refine (part_lit (leastOf (q4 l)) 1 _ _ rfl).mono ?_
      rintro e w8 ⟨rfl, hb8⟩
      go_wp2_with fail
      refine (less_lit _ _ false _ (by simpa using HE.out.1)).mono ?_
      rintro e w9 ⟨rfl, rfl⟩
      go_wp2_with fail
      refine (part_lit (mostOf (q4 l)) 1 _ _ rfl).mono ?_
      rintro e w10 ⟨rfl, hb10⟩
      have hbz := bt (bt (bt (bt hb hb2) hb7) hb8) hb10
      go_wp2_with fail
      refine (less_lit _ _ false _ (by simpa using HE.out.2.1)).mono ?_
      rintro e w11 ⟨rfl, rfl⟩
      by_cases heq : leastOf (q4 l) = mostOf (q4 l)
      · have hne : (leastOf (q4 l) != mostOf (q4 l)) = false := by simp [heq]
        have HF := Lib.hid (HE.out.2.2 heq)
        clear heq hb hb2 hb7 hb8 hb10
        go_wp2_with fail
        refine (part_lit (leastOf (q4 l)) 1 _ _ (by rw [← HF.out])).mono ?_
        rintro e w12 ⟨rfl, hb12⟩
        go_wp2_with fail
        go_ret
        exact ⟨rfl, bt hbz hb12⟩
      · have hne : (leastOf (q4 l) != mostOf (q4 l)) = true := by simp [heq]
        clear heq hb hb2 hb7 hb8 hb10
        go_wp2_with fail
        go_ret
        exact ⟨rfl, hbz⟩
set_option maxHeartbeats 4000000 in
theorem parts_n1_m1_z0 (n m all : Int) (a : Option Addr) (len cap : Nat) (w : World) (hn : (n != 0) = true) (hn1 : Hid (((JFl.partB n n : Nat) : Int) = 4607182418800017408)) (hm0 : 0 < all) (hm : m < n) (h0 : len = 0) :
    Calls Try.prog 7 #[.int .i64 n, .int .i64 m, .int .i64 all, .slice a len cap] w fun e w' => e = .returned (.bool true) ∧ Below w.heap.size w w' := by
  subst h0
  have hd : decide ((1000 : Int) < ((0 : Nat) : Int)) = false := by simp
  go_enter Try.func7, Try.ntmps7
  go_wp2_with fail
  refine (awake_any _).mono ?_
  rintro e w1 ⟨rfl, hb⟩
  go_wp2_with fail
  refine (part_lit n n 4607182418800017408 _ hn1.out).mono ?_
  rintro e w2 ⟨rfl, hb2⟩
  have hb := bt hb hb2
  clear hb2
  go_wp2_with fail
  go_ret
  exact ⟨rfl, hb⟩
set_option maxRecDepth 100000 in
set_option maxHeartbeats 4000000 in
theorem parts_n1_m1_z1 (n m all : Int) (a : Option Addr) (len cap : Nat) (l : List Int) (w : World) (HI : Hid (IntsAt .i32 w a len l)) (hlen : len ≤ 1000) (HW : Hid (∀ x ∈ l, -2147483648 ≤ x ∧ x ≤ 2147483647)) (hn : (n != 0) = true) (hn1 : Hid (((JFl.partB n n : Nat) : Int) = 4607182418800017408)) (hm0 : 0 < all) (hm : m < n) (h0 : ((len : Int) == 0) = false) :
    Calls Try.prog 7 #[.int .i64 n, .int .i64 m, .int .i64 all, .slice a len cap] w fun e w' => e = .returned (.bool true) ∧ Below w.heap.size w w' := by
  have hd : decide ((1000 : Int) < (len : Int)) = false := by simp; omega
  go_enter Try.func7, Try.ntmps7
  go_wp2_with fail
  refine (awake_any _).mono ?_
  rintro e w1 ⟨rfl, hb⟩
  go_wp2_with fail
  refine (part_lit n n 4607182418800017408 _ hn1.out).mono ?_
  rintro e w2 ⟨rfl, hb2⟩
  have hb := bt hb hb2
  clear hb2
  go_wp2_with fail
  obtain ⟨i0, hi, hz0, hz1, hz2⟩ := info_parts Try.info3
  have H1 := HI.out.next hb
  have HJ := Lib.hid H1
  clear H1
  obtain ⟨W, HW2⟩ : ∃ W, Hid (W = w2) := ⟨_, rfl⟩
  have EW := HW2.out
  clear HW2
  subst EW
  go_loopw [9, 10, 11, 12] (fun v mn mx i wr => ∃ k : Nat, k ≤ len ∧ i = .int .i64 k ∧ wr.ownsRow W.heap.size 3 1 v k ((q4 (l.take k)).map (Value.int .i64)) ∧ mn = .int .i64 (leastOf (q4 (l.take k))) ∧ mx = .int .i64 (mostOf (q4 (l.take k))) ∧ Below W.heap.size W wr) (fun _ _ _ i _ => len - (intOf i).toNat)
  case atStart => exact ⟨0, Nat.zero_le _, rfl, World.ownsRow_nil _ _ _ _, rfl, rfl, Below.refl _ _⟩
  case round =>
    obtain ⟨k, hk, rfl, hown, rfl, rfl, hb2⟩ := hrel
    by_cases hlt : k < len
    · rcases HJ.out.2 with h1 | ⟨b, off, rfl, hbs, hcell⟩
      · omega
      have hkl : k < l.length := by have := HI.out.1; omega
      have hxb := HW.out _ (mem_getD hkl)
      obtain ⟨x, hx⟩ : ∃ x, x = l.getD k 0 := ⟨_, rfl⟩
      have hck : wr.cell? ⟨b, off + k, none⟩ = some (.int .i32 x) := by rw [hb2.cell hbs, hx]; exact hcell k hlt
      rw [← hx] at hxb
      have HX := Lib.hid hx
      clear hx hcell hkl
      have hx1 := hxb.1
      have hx2 := hxb.2
      clear hxb
      have hsize := hb2.size
      go_wp2_with (at_builtin; refine wpList_append_own _ rfl (.tmp 62) (.tmp 64) 30 rfl W.heap.size 3 i0 (.int .i64 0) 1 8 Try.underlying30 hi hz0 hz1 hz2 rfl (by decide) _ _ _ rfl (hown.alloc _) ⟨wr.heap.size, 0, none⟩ 1 1 [.int .i64 (x / 4)] rfl rfl ?c1 ?c2 ?c3 ?c4 ?c5 ?_)
      case c1 =>
        intro j u hj
        match j, hj with
        | 0, hj => simp at hj; subst hj; simp [Addr.add]
      case c2 => intro u hu; simp at hu; subst hu; rfl
      case c3 => unfold maxLen; omega
      case c4 => omega
      case c5 => simp; omega
      intro v' w6 hown' hgrow _
      have hb6 : Below W.heap.size W w6 := (hb2.alloc hb2.size _).grown hgrow (by simp; omega) (fun g hg => by
        rcases hown.2 with ⟨e, _⟩ | ⟨g2, _, _, e, hg2, _⟩
        · rw [e] at hg; cases hg
        · rw [e] at hg; cases hg; exact hg2)
      clear hgrow hown hck hb2
      go_wp2
      go_roundw
      case rel =>
        have e4 : q4 (l.take (k + 1)) = q4 (l.take k) ++ [x / 4] := by rw [HX.out]; exact q4_take l k (by have := HI.out.1; omega)
        refine ⟨k + 1, by omega, by go_num, ?_, ?_, ?_, hb6⟩
        · rw [e4]; simpa using hown'
        · rw [e4, least_snoc]; congr 1; split <;> omega
        · rw [e4, most_snoc]; congr 1; split <;> omega
      case measure => simp [intOf]; omega
    · obtain rfl : k = len := by omega
      have hll : l.take k = l := List.take_of_length_le (by have := HI.out.1; omega)
      rw [hll] at hown ⊢
      have hpos : 0 < k := by have := h0; simp at this; omega
      obtain ⟨g, cap2, hv, hia⟩ := ints_of_owned hown hpos
      have hend := parts_end (l := l) (by intro h; have := HI.out.1; rw [h] at this; simp at this; omega) (by have := HI.out.1; omega) HW.out
      rw [hv]
      have HE := Lib.hid hend
      have HA := Lib.hid hia
      clear hend hia hv hown hll
      go_wp2_with fail
      refine (meanV _ k cap2 (q4 l) _ HA.out (by omega)).mono ?_
      rintro e w7 ⟨rfl, hb7⟩
      go_wp2_with fail
      refine (part_lit (leastOf (q4 l)) 1 _ _ rfl).mono ?_
      rintro e w8 ⟨rfl, hb8⟩
      go_wp2_with fail
      refine (less_lit _ _ false _ (by simpa using HE.out.1)).mono ?_
      rintro e w9 ⟨rfl, rfl⟩
      go_wp2_with fail
      refine (part_lit (mostOf (q4 l)) 1 _ _ rfl).mono ?_
      rintro e w10 ⟨rfl, hb10⟩
      have hbz := bt (bt (bt (bt hb hb2) hb7) hb8) hb10
      go_wp2_with fail
      refine (less_lit _ _ false _ (by simpa using HE.out.2.1)).mono ?_
      rintro e w11 ⟨rfl, rfl⟩
      by_cases heq : leastOf (q4 l) = mostOf (q4 l)
      · have hne : (leastOf (q4 l) != mostOf (q4 l)) = false := by simp [heq]
        have HF := Lib.hid (HE.out.2.2 heq)
        clear heq hb hb2 hb7 hb8 hb10
        go_wp2_with fail
        refine (part_lit (leastOf (q4 l)) 1 _ _ (by rw [← HF.out])).mono ?_
        rintro e w12 ⟨rfl, hb12⟩
        go_wp2_with fail
        go_ret
        exact ⟨rfl, bt hbz hb12⟩
      · have hne : (leastOf (q4 l) != mostOf (q4 l)) = true := by simp [heq]
        clear heq hb hb2 hb7 hb8 hb10
        go_wp2_with fail
        go_ret
        exact ⟨rfl, hbz⟩
set_option maxHeartbeats 4000000 in
theorem parts_n1_m2_z0 (n m all : Int) (a : Option Addr) (len cap : Nat) (w : World) (hn : (n != 0) = true) (hn1 : Hid (((JFl.partB n n : Nat) : Int) = 4607182418800017408)) (hm0 : 0 < all) (hm : n ≤ m) (hm1 : Hid (JFl.lessB (JFl.partB m all) (JFl.partB n all) = false)) (h0 : len = 0) :
    Calls Try.prog 7 #[.int .i64 n, .int .i64 m, .int .i64 all, .slice a len cap] w fun e w' => e = .returned (.bool true) ∧ Below w.heap.size w w' := by
  subst h0
  have hd : decide ((1000 : Int) < ((0 : Nat) : Int)) = false := by simp
  go_enter Try.func7, Try.ntmps7
  go_wp2_with fail
  refine (awake_any _).mono ?_
  rintro e w1 ⟨rfl, hb⟩
  go_wp2_with fail
  refine (part_lit n n 4607182418800017408 _ hn1.out).mono ?_
  rintro e w2 ⟨rfl, hb2⟩
  have hb := bt hb hb2
  clear hb2
  go_wp2_with fail
  refine (part_lit m all _ _ rfl).mono ?_
  rintro e w3 ⟨rfl, hb3⟩
  go_wp2_with fail
  refine (part_lit n all _ _ rfl).mono ?_
  rintro e w4 ⟨rfl, hb4⟩
  have hb := bt (bt hb hb3) hb4
  clear hb3 hb4
  go_wp2_with fail
  refine (less_lit _ _ false _ (by simpa using hm1.out)).mono ?_
  rintro e w5 ⟨rfl, rfl⟩
  go_wp2_with fail
  go_ret
  exact ⟨rfl, hb⟩
set_option maxRecDepth 100000 in
set_option maxHeartbeats 4000000 in
theorem parts_n1_m2_z1 (n m all : Int) (a : Option Addr) (len cap : Nat) (l : List Int) (w : World) (HI : Hid (IntsAt .i32 w a len l)) (hlen : len ≤ 1000) (HW : Hid (∀ x ∈ l, -2147483648 ≤ x ∧ x ≤ 2147483647)) (hn : (n != 0) = true) (hn1 : Hid (((JFl.partB n n : Nat) : Int) = 4607182418800017408)) (hm0 : 0 < all) (hm : n ≤ m) (hm1 : Hid (JFl.lessB (JFl.partB m all) (JFl.partB n all) = false)) (h0 : ((len : Int) == 0) = false) :
    Calls Try.prog 7 #[.int .i64 n, .int .i64 m, .int .i64 all, .slice a len cap] w fun e w' => e = .returned (.bool true) ∧ Below w.heap.size w w' := by
  have hd : decide ((1000 : Int) < (len : Int)) = false := by simp; omega
  go_enter Try.func7, Try.ntmps7
  go_wp2_with fail
  refine (awake_any _).mono ?_
  rintro e w1 ⟨rfl, hb⟩
  go_wp2_with fail
  refine (part_lit n n 4607182418800017408 _ hn1.out).mono ?_
  rintro e w2 ⟨rfl, hb2⟩
  have hb := bt hb hb2
  clear hb2
  go_wp2_with fail
  refine (part_lit m all _ _ rfl).mono ?_
  rintro e w3 ⟨rfl, hb3⟩
  go_wp2_with fail
  refine (part_lit n all _ _ rfl).mono ?_
  rintro e w4 ⟨rfl, hb4⟩
  have hb := bt (bt hb hb3) hb4
  clear hb3 hb4
  go_wp2_with fail
  refine (less_lit _ _ false _ (by simpa using hm1.out)).mono ?_
  rintro e w5 ⟨rfl, rfl⟩
  go_wp2_with fail
  obtain ⟨i0, hi, hz0, hz1, hz2⟩ := info_parts Try.info3
  have H1 := HI.out.next hb
  have HJ := Lib.hid H1
  clear H1
  obtain ⟨W, HW2⟩ : ∃ W, Hid (W = w4) := ⟨_, rfl⟩
  have EW := HW2.out
  clear HW2
  subst EW
  go_loopw [9, 10, 11, 12] (fun v mn mx i wr => ∃ k : Nat, k ≤ len ∧ i = .int .i64 k ∧ wr.ownsRow W.heap.size 3 1 v k ((q4 (l.take k)).map (Value.int .i64)) ∧ mn = .int .i64 (leastOf (q4 (l.take k))) ∧ mx = .int .i64 (mostOf (q4 (l.take k))) ∧ Below W.heap.size W wr) (fun _ _ _ i _ => len - (intOf i).toNat)
  case atStart => exact ⟨0, Nat.zero_le _, rfl, World.ownsRow_nil _ _ _ _, rfl, rfl, Below.refl _ _⟩
  case round =>
    obtain ⟨k, hk, rfl, hown, rfl, rfl, hb2⟩ := hrel
    by_cases hlt : k < len
    · rcases HJ.out.2 with h1 | ⟨b, off, rfl, hbs, hcell⟩
      · omega
      have hkl : k < l.length := by have := HI.out.1; omega
      have hxb := HW.out _ (mem_getD hkl)
      obtain ⟨x, hx⟩ : ∃ x, x = l.getD k 0 := ⟨_, rfl⟩
      have hck : wr.cell? ⟨b, off + k, none⟩ = some (.int .i32 x) := by rw [hb2.cell hbs, hx]; exact hcell k hlt
      rw [← hx] at hxb
      have HX := Lib.hid hx
      clear hx hcell hkl
      have hx1 := hxb.1
      have hx2 := hxb.2
      clear hxb
      have hsize := hb2.size
      go_wp2_with (at_builtin; refine wpList_append_own _ rfl (.tmp 62) (.tmp 64) 30 rfl W.heap.size 3 i0 (.int .i64 0) 1 8 Try.underlying30 hi hz0 hz1 hz2 rfl (by decide) _ _ _ rfl (hown.alloc _) ⟨wr.heap.size, 0, none⟩ 1 1 [.int .i64 (x / 4)] rfl rfl ?c1 ?c2 ?c3 ?c4 ?c5 ?_)
      case c1 =>
        intro j u hj
        match j, hj with
        | 0, hj => simp at hj; subst hj; simp [Addr.add]
      case c2 => intro u hu; simp at hu; subst hu; rfl
      case c3 => unfold maxLen; omega
      case c4 => omega
      case c5 => simp; omega
      intro v' w6 hown' hgrow _
      have hb6 : Below W.heap.size W w6 := (hb2.alloc hb2.size _).grown hgrow (by simp; omega) (fun g hg => by
        rcases hown.2 with ⟨e, _⟩ | ⟨g2, _, _, e, hg2, _⟩
        · rw [e] at hg; cases hg
        · rw [e] at hg; cases hg; exact hg2)
      clear hgrow hown hck hb2
      go_wp2
      go_roundw
      case rel =>
        have e4 : q4 (l.take (k + 1)) = q4 (l.take k) ++ [x / 4] := by rw [HX.out]; exact q4_take l k (by have := HI.out.1; omega)
        refine ⟨k + 1, by omega, by go_num, ?_, ?_, ?_, hb6⟩
        · rw [e4]; simpa using hown'
        · rw [e4, least_snoc]; congr 1; split <;> omega
        · rw [e4, most_snoc]; congr 1; split <;> omega
      case measure => simp [intOf]; omega
    · obtain rfl : k = len := by omega
      have hll : l.take k = l := List.take_of_length_le (by have := HI.out.1; omega)
      rw [hll] at hown ⊢
      have hpos : 0 < k := by have := h0; simp at this; omega
      obtain ⟨g, cap2, hv, hia⟩ := ints_of_owned hown hpos
      have hend := parts_end (l := l) (by intro h; have := HI.out.1; rw [h] at this; simp at this; omega) (by have := HI.out.1; omega) HW.out
      rw [hv]
      have HE := Lib.hid hend
      have HA := Lib.hid hia
      clear hend hia hv hown hll
      go_wp2_with fail
      refine (meanV _ k cap2 (q4 l) _ HA.out (by omega)).mono ?_
      rintro e w7 ⟨rfl, hb7⟩
      go_wp2_with fail
      refine (part_lit (leastOf (q4 l)) 1 _ _ rfl).mono ?_
      rintro e w8 ⟨rfl, hb8⟩
      go_wp2_with fail
      refine (less_lit _ _ false _ (by simpa using HE.out.1)).mono ?_
      rintro e w9 ⟨rfl, rfl⟩
      go_wp2_with fail
      refine (part_lit (mostOf (q4 l)) 1 _ _ rfl).mono ?_
      rintro e w10 ⟨rfl, hb10⟩
      have hbz := bt (bt (bt (bt hb hb2) hb7) hb8) hb10
      go_wp2_with fail
      refine (less_lit _ _ false _ (by simpa using HE.out.2.1)).mono ?_
      rintro e w11 ⟨rfl, rfl⟩
      by_cases heq : leastOf (q4 l) = mostOf (q4 l)
      · have hne : (leastOf (q4 l) != mostOf (q4 l)) = false := by simp [heq]
        have HF := Lib.hid (HE.out.2.2 heq)
        clear heq hb hb2 hb7 hb8 hb10
        go_wp2_with fail
        refine (part_lit (leastOf (q4 l)) 1 _ _ (by rw [← HF.out])).mono ?_
        rintro e w12 ⟨rfl, hb12⟩
        go_wp2_with fail
        go_ret
        exact ⟨rfl, bt hbz hb12⟩
      · have hne : (leastOf (q4 l) != mostOf (q4 l)) = true := by simp [heq]
        clear heq hb hb2 hb7 hb8 hb10
        go_wp2_with fail
        go_ret
        exact ⟨rfl, hbz⟩

theorem parts_many (n m all : Int) (a : Option Addr) (len cap : Nat) (w : World) (h : 1000 < len) :
    Calls Try.prog 7 #[.int .i64 n, .int .i64 m, .int .i64 all, .slice a len cap] w fun e w' => e = .returned (.bool true) ∧ Below w.heap.size w w' := by
  have hd : decide ((1000 : Int) < (len : Int)) = true := by simp; omega
  clear h
  go_enter Try.func7, Try.ntmps7
  go_wp2_with fail
  refine (awake_any _).mono ?_
  rintro e w1 ⟨rfl, hb1⟩
  go_wp2_with fail
  go_ret
  exact ⟨rfl, hb1⟩

theorem attrParts_any (n m all : Int) (a : Option Addr) (len cap : Nat) (l : List Int) (w : World) (h : IntsAt .i32 w a len l) (hw : ∀ x ∈ l, -2147483648 ≤ x ∧ x ≤ 2147483647) (hn : n.natAbs ≤ 2 ^ 63) (hm : m.natAbs ≤ 2 ^ 63) (ha : all.natAbs ≤ 2 ^ 63) :
    Calls Try.prog 7 #[.int .i64 n, .int .i64 m, .int .i64 all, .slice a len cap] w fun e w' => e = .returned (.bool true) ∧ Below w.heap.size w w' := by
  by_cases hl : 1000 < len
  · exact parts_many n m all a len cap w hl
  have hl' : len ≤ 1000 := by omega
  have hz : len = 0 ∨ ((len : Int) == 0) = false := by
    by_cases e : len = 0
    · exact .inl e
    · right; simp; omega
  have hms : all ≤ 0 ∨ (0 < all ∧ m < n) ∨ (0 < all ∧ n ≤ m ∧ JFl.lessB (JFl.partB m all) (JFl.partB n all) = false) := by
    by_cases e : all ≤ 0
    · exact .inl e
    · by_cases e2 : m < n
      · exact .inr (.inl ⟨by omega, e2⟩)
      · exact .inr (.inr ⟨by omega, by omega, JFl.part_mono hn hm (by omega) ha (by omega)⟩)
  by_cases h0 : n = 0
  · subst h0
    rcases hz with hz | hz <;> rcases hms with h1 | ⟨h1, h2⟩ | ⟨h1, h2, h3⟩
    · exact parts_n0_m0_z0 m all a len cap w h1 hz
    · exact parts_n0_m1_z0 m all a len cap w h1 h2 hz
    · exact parts_n0_m2_z0 m all a len cap w h1 h2 h3 hz
    · exact parts_n0_m0_z1 m all a len cap l w h hl' hw h1 hz
    · exact parts_n0_m1_z1 m all a len cap l w h hl' hw h1 h2 hz
    · exact parts_n0_m2_z1 m all a len cap l w h hl' hw h1 h2 h3 hz
  · have hb : (n != 0) = true := by simp [h0]
    have hp : ((JFl.partB n n : Nat) : Int) = 4607182418800017408 := by rw [JFl.part_self hn h0]; rfl
    rcases hz with hz | hz <;> rcases hms with h1 | ⟨h1, h2⟩ | ⟨h1, h2, h3⟩
    · exact parts_n1_m0_z0 n m all a len cap w hb hp h1 hz
    · exact parts_n1_m1_z0 n m all a len cap w hb hp h1 h2 hz
    · exact parts_n1_m2_z0 n m all a len cap w hb hp h1 h2 h3 hz
    · exact parts_n1_m0_z1 n m all a len cap l w h hl' hw hb hp h1 hz
    · exact parts_n1_m1_z1 n m all a len cap l w h hl' hw hb hp h1 h2 hz
    · exact parts_n1_m2_z1 n m all a len cap l w h hl' hw hb hp h1 h2 h3 hz

end Go.Proofs.Ytkdemfahabnbjaa
