/- Join, the document's Join, Same, long. -/
import Derived.Test.YtdjahdipaffajaaWk
import Derived.Lib.Join
namespace Go.Proofs.Ytdjahdipaffajaa
open Go.RowKit
def jn (l : List (List UInt8)) : List UInt8 := Lib.join l [47]
theorem jn_snoc (l : List (List UInt8)) (x : List UInt8) : jn (l ++ [x]) = if l = [] then x else jn l ++ [47] ++ x := by
  unfold jn
  cases l with
  | nil => simp [Lib.join_one]
  | cons y r => rw [List.cons_append, Lib.join_cons, Lib.join_cons]; simp [Lib.joinTail]
def sumL (l : List (List UInt8)) : Nat := (l.map List.length).sum
theorem sumL_snoc (l : List (List UInt8)) (x : List UInt8) : sumL (l ++ [x]) = sumL l + x.length := by simp [sumL]
theorem jn_len (l : List (List UInt8)) : (jn l).length = (l.length - 1) + sumL l := by
  cases l with
  | nil => rfl
  | cons y r =>
    unfold jn sumL
    rw [Lib.join_cons, List.length_append]
    have : ∀ r : List (List UInt8), (Lib.joinTail [47] r).length = r.length + (r.map List.length).sum := by
      intro r
      induction r with
      | nil => rfl
      | cons z r ih => simp [Lib.joinTail] at ih ⊢; omega
    rw [this]
    simp
    omega
def joinE (l : List (List UInt8)) : Int := if l.all mayL then (if 4096 < (jn l).length then 40 else 0) else 56
def joinL (l : List (List UInt8)) : List UInt8 := if joinE l = 0 then jn l else []
def lenOk (l : List (List UInt8)) : Prop := l.length ≤ 10000 ∧ ∀ x ∈ l, x.length ≤ 10000
theorem sumL_le {l : List (List UInt8)} (h : ∀ x ∈ l, x.length ≤ 10000) : sumL l ≤ l.length * 10000 := by
  induction l with
  | nil => simp [sumL]
  | cons y r ih =>
    have h1 := ih fun x hx => h x (List.mem_cons_of_mem _ hx)
    have h2 := h y (List.mem_cons_self ..)
    simp [sumL] at h1 ⊢
    omega
theorem sumL_take (l : List (List UInt8)) (k : Nat) : sumL (l.take k) ≤ sumL l := by
  conv => rhs; rw [← List.take_append_drop k l]
  unfold sumL
  rw [List.map_append, List.sum_append_nat]
  omega
theorem map_mk (l : List (List UInt8)) : (l.map fun x => (⟨x.toArray⟩ : ByteArray)).map (·.data.toList) = l := by
  induction l with
  | nil => rfl
  | cons x l ih => rw [List.map_cons, List.map_cons, ih]
def JoI1 (w : World) (l : List (List UInt8)) (i : Value) (wr : World) : Prop := ∃ k : Nat, k ≤ l.length ∧ i = .int .i64 k ∧ (l.take k).all mayL = true ∧ Below w.heap.size w wr
def JoI2 (l : List (List UInt8)) (sz i : Value) : Prop := ∃ k : Nat, k ≤ l.length ∧ i = .int .i64 k ∧ sz = .int .i64 (((l.length - 1 : Nat) : Int) + (sumL (l.take k) : Int)) ∧ (k = 0 ∨ (l.length - 1) + sumL (l.take k) ≤ 4096)
set_option maxHeartbeats 8000000 in
theorem join_any (w : World) (a : Option Addr) (n cap : Nat) (l : List (List UInt8)) (hs : SliceAt w a n (l.map strV)) (hc : n ≤ cap) (hk : lenOk l) :
    Calls Try.prog 17 #[.slice a n cap] w fun e w' => e = .returned (.tuple #[strV (joinL l), .int .i64 (joinE l)]) ∧ Below w.heap.size w w' := by
  have HS := Lib.hid hs
  have hln : l.length = n := by have := hs.1; simpa using this
  have HLN := Lib.hid hln
  have HK := Lib.hid hk
  have hn : n ≤ 10000 := by have := hk.1; omega
  clear hs hk hln
  have get : ∀ k, k < n → ∃ b off x, a = some ⟨b, off, none⟩ ∧ b < w.heap.size ∧ l[k]? = some x ∧ x.length ≤ 10000 ∧ w.cell? ⟨b, off + k, none⟩ = some (strV x) := by
    intro k hkn
    obtain ⟨b, off, rfl, hb, hcell⟩ := HS.out.get k hkn
    have hkl : k < l.length := by rw [HLN.out]; exact hkn
    refine ⟨b, off, l[k], rfl, hb, List.getElem?_eq_getElem hkl, HK.out.2 _ (List.getElem_mem hkl), ?_⟩
    rw [hcell, List.getElem?_map, List.getElem?_eq_getElem hkl]; rfl
  have HGET := Lib.hid get
  clear get
  go_enter Try.func17, Try.ntmps17
  go_wp2_with fail
  go_loopw [11] (fun i wr => JoI1 w l i wr) (fun i _ => n - (intOf i).toNat)
  case atStart => exact ⟨0, by omega, rfl, rfl, Below.refl _ _⟩
  case round =>
    obtain ⟨k, hkl, rfl, hall, hb⟩ := hrel
    rw [HLN.out] at hkl
    have HALL := Lib.hid hall
    have HB := Lib.hid hb
    clear hall hb
    by_cases hlt : k < n
    · obtain ⟨b1, o1, x, rfl, l1, hx, hxl, q1⟩ := HGET.out k hlt
      have d1 := (HB.out.cell (p := ⟨b1, o1 + k, none⟩) l1).trans q1
      unfold strV at d1
      obtain ⟨E1, hE1⟩ : ∃ E : ByteArray, E = ⟨x.toArray⟩ := ⟨_, rfl⟩
      rw [← hE1] at d1
      have HE1 : Hid (E1.data.toList = x) := Lib.hid (by rw [hE1])
      have hEs : E1.size ≤ 10000 := by rw [Lib.size_eq, HE1.out]; exact hxl
      have HX := Lib.hid hx
      clear q1 hE1 hx
      go_wp2_with fail
      refine (may_any wr E1 (by omega)).mono ?_
      rintro e w2 ⟨rfl, hbc⟩
      have HBC := Lib.hid (HB.out.trans (hbc.mono HB.out.size))
      clear hbc d1
      rw [HE1.out]
      cases hm : mayL x with
      | false =>
        have HF : Hid (joinE l = 56) := Lib.hid (by
          unfold joinE
          rw [if_neg]
          intro h
          have := List.all_eq_true.1 h x (List.mem_of_getElem? HX.out)
          rw [hm] at this; cases this)
        have HJ : Hid (joinL l = []) := Lib.hid (by unfold joinL; rw [if_neg (by rw [HF.out]; decide)])
        clear hm
        go_wp2_with fail
        go_ret2
        rw [HF.out, HJ.out]
        exact ⟨rfl, HBC.out⟩
      | true =>
        have HM := Lib.hid hm
        clear hm
        go_wp2_with fail
        go_roundw
        case rel =>
          refine ⟨k + 1, by rw [HLN.out]; omega, by go_num, ?_, HBC.out⟩
          rw [List.take_add_one, HX.out]
          have := HALL.out
          simp at this ⊢
          exact ⟨this, HM.out⟩
        case measure => simp [intOf]; omega
    · obtain rfl : k = n := by omega
      have hall := HALL.out
      rw [List.take_of_length_le (by rw [HLN.out]; exact Nat.le_refl _)] at hall
      have HA2 := Lib.hid hall
      clear hall HALL
      by_cases hz : k = 0
      · have HL0 : Hid (l = []) := Lib.hid (List.eq_nil_of_length_eq_zero (by rw [HLN.out, hz]))
        subst hz
        go_wp2_with fail
        go_loop [25, 6] (fun i sz => i = .int .i64 0 ∧ sz = .int .i64 0) (fun _ _ => 0)
        case atStart => exact ⟨rfl, rfl⟩
        case round =>
          obtain ⟨rfl, rfl⟩ := hrel
          go_wp2_with fail
          refine (Try.strings_Join_none a cap ⟨#[47]⟩ wr).mono ?_
          rintro e w2 ⟨rfl, hw⟩
          have HW := Lib.hid hw
          clear hw
          go_wp2_with fail
          go_ret2
          rw [HL0.out]
          exact ⟨rfl, by rw [HW.out]; exact HB.out⟩
      · have hk1 : 1 ≤ k := by omega
        have hmx : max ((k : Int) - 1) 0 = ((k - 1 : Nat) : Int) := by omega
        have HGB := Lib.hid (sumL_le HK.out.2)
        go_wp2_with fail
        obtain ⟨m, hm⟩ : ∃ m, m = k - 1 := ⟨_, rfl⟩
        rw [← hm]
        have HMK := Lib.hid hm
        clear hm hmx
        have hm1 : m ≤ 10000 := by have := HMK.out; omega
        go_loop [25, 6] (fun i sz => ∃ j : Nat, j ≤ k ∧ i = .int .i64 j ∧ sz = .int .i64 ((m : Int) + (sumL (l.take j) : Int)) ∧ (j = 0 ∨ m + sumL (l.take j) ≤ 4096)) (fun i _ => k - (intOf i).toNat)
        case atStart => exact ⟨0, by omega, rfl, by simp [sumL], .inl rfl⟩
        case round =>
          obtain ⟨j, hj, rfl, rfl, hjs⟩ := hrel
          have hsb : sumL (l.take j) ≤ 4096 := by
            rcases hjs with rfl | h
            · simp [sumL]
            · omega
          have HJS := Lib.hid hjs
          clear hjs
          by_cases hlj : j < k
          · obtain ⟨b1, o1, x, rfl, l1, hx, hxl, q1⟩ := HGET.out j hlj
            have d1 := (HB.out.cell (p := ⟨b1, o1 + j, none⟩) l1).trans q1
            unfold strV at d1
            obtain ⟨E1, hE1⟩ : ∃ E : ByteArray, E = ⟨x.toArray⟩ := ⟨_, rfl⟩
            rw [← hE1] at d1
            have hEs : E1.size = x.length := by rw [hE1]; simp [ByteArray.size]
            have hEl : E1.size ≤ 10000 := by omega
            have HTK : Hid (sumL (l.take (j + 1)) = sumL (l.take j) + E1.size) := Lib.hid (by rw [List.take_add_one, hx, hEs]; simp only [Option.toList_some, sumL_snoc])
            obtain ⟨S, hS⟩ : ∃ S, S = sumL (l.take j) := ⟨_, rfl⟩
            rw [← hS] at hsb HTK ⊢
            clear q1 hE1 hx hEs hS HJS
            by_cases hbig : m + S + E1.size ≤ 4096
            · have hbi : (m : Int) + (S : Int) + (E1.size : Int) ≤ 4096 := by omega
              go_wp2_with fail
              go_round
              case rel => exact ⟨j + 1, by omega, by go_num, by rw [HTK.out]; simp; omega, .inr (by rw [HTK.out]; omega)⟩
              case measure => simp [intOf]; omega
            · have hbi : (4096 : Int) < (m : Int) + (S : Int) + (E1.size : Int) := by omega
              have HF : Hid (joinE l = 40) := Lib.hid (by
                unfold joinE
                rw [if_pos HA2.out, if_pos]
                rw [jn_len, HLN.out, ← HMK.out]
                have := sumL_take l (j + 1)
                rw [HTK.out] at this
                omega)
              have HJ : Hid (joinL l = []) := Lib.hid (by unfold joinL; rw [if_neg (by rw [HF.out]; decide)])
              go_wp2_with fail
              go_ret2
              rw [HF.out, HJ.out]
              exact ⟨rfl, HB.out⟩
          · obtain rfl : j = k := by omega
            have HTA : Hid (l.take j = l) := Lib.hid (List.take_of_length_le (by rw [HLN.out]; exact Nat.le_refl _))
            have hle : m + sumL l ≤ 4096 := by
              rcases HJS.out with h | h
              · omega
              · rw [HTA.out] at h; exact h
            have HF : Hid (joinE l = 0) := Lib.hid (by
              unfold joinE
              rw [if_pos HA2.out, if_neg]
              rw [jn_len, HLN.out, ← HMK.out]
              omega)
            have HJ : Hid (joinL l = jn l) := Lib.hid (by unfold joinL; rw [if_pos HF.out])
            obtain ⟨b1, o1, x0, rfl, l1, _, _, _⟩ := HGET.out 0 (by omega)
            have hjoin := Try.strings_Join b1 o1 cap (l.map fun x => (⟨x.toArray⟩ : ByteArray)) ⟨#[47]⟩ wr (by
                intro i y hy
                rw [List.getElem?_map] at hy
                obtain ⟨x, hx, rfl⟩ := Option.map_eq_some_iff.1 hy
                have hi : i < l.length := (List.getElem?_eq_some_iff.1 hx).1
                obtain ⟨b2, o2, x2, he, l2, hx2, _, q2⟩ := HGET.out i (by rw [← HLN.out]; exact hi)
                cases he
                rw [hx] at hx2
                cases hx2
                exact (HB.out.cell (p := ⟨b1, o1 + i, none⟩) l1).trans q2)
              (Nat.lt_of_lt_of_le l1 HB.out.size) (by simp; rw [HLN.out]; omega) (by simp; rw [HLN.out]; omega) (by
                have e := map_mk l
                rw [e]
                have := jn_len l
                unfold jn at this
                show (Lib.join l [47]).length ≤ _
                rw [this]
                rw [HLN.out]
                have := HMK.out
                omega)
            rw [show (l.map fun x => (⟨x.toArray⟩ : ByteArray)).length = j from by simp; exact HLN.out, map_mk] at hjoin
            have HJN := Lib.hid hjoin
            clear hjoin
            go_wp2_with fail
            refine HJN.out.mono ?_
            rintro e w2 ⟨rfl, hb2⟩
            have HB2 := Lib.hid (HB.out.trans (hb2.mono HB.out.size))
            clear hb2
            go_wp2_with fail
            go_ret2
            rw [HF.out, HJ.out]
            exact ⟨rfl, HB2.out⟩
def RjI (l : List (List UInt8)) (s i : Value) : Prop := ∃ (k : Nat) (S : ByteArray), k ≤ l.length ∧ i = .int .i64 k ∧ s = .string S ∧ S.data.toList = jn (l.take k) ∧ (l.take k).all mayL = true
set_option maxHeartbeats 8000000 in
theorem refjoin_any (w : World) (a : Option Addr) (n cap : Nat) (l : List (List UInt8)) (hs : SliceAt w a n (l.map strV)) (hk : lenOk l) :
    Calls Try.prog 18 #[.slice a n cap] w fun e w' => e = .returned (.tuple #[strV (joinL l), .int .i64 (joinE l)]) ∧ w = w' := by
  have HS := Lib.hid hs
  have hln : l.length = n := by have := hs.1; simpa using this
  have HLN := Lib.hid hln
  have HK := Lib.hid hk
  have hn : n ≤ 10000 := by have := hk.1; omega
  clear hs hk hln
  have hjb : ∀ k, k ≤ n → (jn (l.take k)).length ≤ 200000000 := by
    intro k hkn
    rw [jn_len]
    have h1 := sumL_take l k
    have h2 := sumL_le HK.out.2
    rw [HLN.out] at h2
    have h3 : n * 10000 ≤ 100000000 := by omega
    simp
    omega
  have HJB := Lib.hid hjb
  clear hjb
  go_enter Try.func18, Try.ntmps18
  go_wp2_with fail
  go_loop [4, 5] (fun s i => RjI l s i) (fun _ i => n - (intOf i).toNat)
  case atStart => exact ⟨0, ⟨#[]⟩, by omega, rfl, rfl, rfl, rfl⟩
  case round =>
    obtain ⟨k, S, hkl, rfl, rfl, hS, hall⟩ := hrel
    rw [HLN.out] at hkl
    have HSJ := Lib.hid hS
    have HALL := Lib.hid hall
    have hSz : S.size ≤ 200000000 := by rw [Lib.size_eq, hS]; exact HJB.out k hkl
    clear hS hall
    by_cases hlt : k < n
    · obtain ⟨b1, o1, rfl, l1, q1⟩ := HS.out.get k hlt
      have hkl2 : k < l.length := by rw [HLN.out]; exact hlt
      obtain ⟨x, hx⟩ : ∃ x, l[k]? = some x := ⟨l[k], List.getElem?_eq_getElem hkl2⟩
      have hxl := HK.out.2 x (List.mem_of_getElem? hx)
      rw [List.getElem?_map, hx] at q1
      simp only [Option.map_some, strV] at q1
      obtain ⟨E1, hE1⟩ : ∃ E : ByteArray, E = ⟨x.toArray⟩ := ⟨_, rfl⟩
      rw [← hE1] at q1
      have HE1 : Hid (E1.data.toList = x) := Lib.hid (by rw [hE1])
      have hEs : E1.size ≤ 10000 := by rw [Lib.size_eq, HE1.out]; exact hxl
      have HX := Lib.hid hx
      have HTK : Hid (jn (l.take (k + 1)) = if k = 0 then x else jn (l.take k) ++ [47] ++ x) := Lib.hid (by
        rw [List.take_add_one, hx]
        simp only [Option.toList_some, jn_snoc]
        by_cases h0 : k = 0
        · subst h0; simp
        · rw [if_neg h0, if_neg]
          intro e
          have := congrArg List.length e
          rw [List.length_take, List.length_nil] at this
          omega)
      clear hE1 hx hkl2
      go_wp2_with fail
      refine (refmay_any w E1 (by omega)).mono ?_
      rintro e w2 ⟨rfl, rfl⟩
      rw [HE1.out]
      cases hm : mayL x with
      | false =>
        have HF : Hid (joinE l = 56) := Lib.hid (by
          unfold joinE
          rw [if_neg]
          intro h
          have := List.all_eq_true.1 h x (List.mem_of_getElem? HX.out)
          rw [hm] at this; cases this)
        have HJ : Hid (joinL l = []) := Lib.hid (by unfold joinL; rw [if_neg (by rw [HF.out]; decide)])
        clear hm
        go_wp2_with fail
        go_ret2
        rw [HF.out, HJ.out]
        exact ⟨rfl, rfl⟩
      | true =>
        have HM := Lib.hid hm
        clear hm
        have HA2 : Hid ((l.take (k + 1)).all mayL = true) := Lib.hid (by
          rw [List.take_add_one, HX.out]
          have := HALL.out
          simp at this ⊢
          exact ⟨this, HM.out⟩)
        by_cases h0 : k = 0
        · subst h0
          rw [Nat.add_zero] at q1
          go_wp2_with fail
          go_round
          case rel =>
            refine ⟨1, S ++ E1, by rw [HLN.out]; omega, rfl, rfl, ?_, HA2.out⟩
            rw [HTK.out]
            simp only [if_true]
            rw [append_toList, HSJ.out, HE1.out]
            rfl
          case measure => simp [intOf]; omega
        · have h1 : (0 : Int) < (k : Int) := by omega
          go_wp2_with fail
          go_round
          case rel =>
            refine ⟨k + 1, S ++ ⟨#[47]⟩ ++ E1, by rw [HLN.out]; omega, by go_num, rfl, ?_, HA2.out⟩
            rw [HTK.out, if_neg h0, append_toList, append_toList, HSJ.out, HE1.out]
          case measure => simp [intOf]; omega
    · obtain rfl : k = n := by omega
      have hall := HALL.out
      have hsj := HSJ.out
      rw [List.take_of_length_le (by rw [HLN.out]; exact Nat.le_refl _)] at hall hsj
      have HA2 := Lib.hid hall
      have HSS := Lib.hid hsj
      clear hall hsj
      by_cases hbig : S.size ≤ 4096
      · have hbi : (S.size : Int) ≤ 4096 := by omega
        have HF : Hid (joinE l = 0) := Lib.hid (by
          unfold joinE
          rw [if_pos HA2.out, if_neg]
          rw [← HSS.out, ← Lib.size_eq]; omega)
        have HJ : Hid (joinL l = jn l) := Lib.hid (by unfold joinL; rw [if_pos HF.out])
        go_wp2_with fail
        go_ret2
        rw [HF.out, HJ.out, ba_ext HSS.out]
        exact ⟨rfl, rfl⟩
      · have hbi : (4096 : Int) < (S.size : Int) := by omega
        have HF : Hid (joinE l = 40) := Lib.hid (by
          unfold joinE
          rw [if_pos HA2.out, if_pos]
          rw [← HSS.out, ← Lib.size_eq]; omega)
        have HJ : Hid (joinL l = []) := Lib.hid (by unfold joinL; rw [if_neg (by rw [HF.out]; decide)])
        go_wp2_with fail
        go_ret2
        rw [HF.out, HJ.out]
        exact ⟨rfl, rfl⟩
end Go.Proofs.Ytdjahdipaffajaa
