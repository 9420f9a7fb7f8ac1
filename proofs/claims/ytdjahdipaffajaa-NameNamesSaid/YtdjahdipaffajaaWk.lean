/- The document's May and Split. -/
import Derived.Test.YtdjahdipaffajaaWi
namespace Go.Proofs.Ytdjahdipaffajaa
open Go.RowKit
def RyI (l : List UInt8) (i : Value) : Prop := ∃ k : Nat, k ≤ l.length ∧ i = .int .i64 k ∧ 0 ∉ l.take k ∧ 47 ∉ l.take k
theorem u8_ne {x : UInt8} {n : Nat} (hn : n < 256) (h : x ≠ UInt8.ofNat n) : ((x.toNat : Int) == (n : Int)) = false := by
  simp
  intro e
  apply h
  apply UInt8.toNat_inj.1
  rw [UInt8.toNat_ofNat']
  omega
set_option maxHeartbeats 2000000 in
theorem refmay_any (w : World) (s : ByteArray) (hs : s.size ≤ 100000) : Calls Try.prog 20 #[.string s] w fun e w' => e = .returned (.bool (mayL s.data.toList)) ∧ w = w' := by
  by_cases h1 : s.data.toList = []
  · obtain rfl := ba_ext h1
    go_enter Try.func20, Try.ntmps20
    go_wp2
    go_ret
    exact ⟨rfl, rfl⟩
  by_cases h2 : s.data.toList = [46]
  · obtain rfl := ba_ext h2
    go_enter Try.func20, Try.ntmps20
    go_wp2
    go_ret
    exact ⟨rfl, rfl⟩
  by_cases h3 : s.data.toList = [46, 46]
  · obtain rfl := ba_ext h3
    go_enter Try.func20, Try.ntmps20
    go_wp2
    go_ret
    exact ⟨rfl, rfl⟩
  by_cases h4 : s.data.toList = snap
  · obtain rfl := ba_ext h4
    go_enter Try.func20, Try.ntmps20
    go_wp2
    go_ret
    exact ⟨rfl, rfl⟩
  have hz1 : 1 ≤ s.size := by
    rw [Lib.size_eq]
    cases h : s.data.toList with
    | nil => exact absurd h h1
    | cons _ _ => simp
  have e2 : (s.toList == [46]) = false := by rw [Lib.toList_data]; simpa using h2
  have e3 : (s.toList == [46, 46]) = false := by rw [Lib.toList_data]; simpa using h3
  have e4 : (s.toList == [46, 115, 110, 97, 112, 115, 104, 111, 116]) = false := by rw [Lib.toList_data]; simpa [snap] using h4
  have HM : Hid (mayL s.data.toList = decide (s.size ≤ 32 ∧ 0 ∉ s.data.toList ∧ 47 ∉ s.data.toList)) := Lib.hid (by
    unfold mayL
    rw [Lib.size_eq]
    simp [h1, h2, h3, h4])
  clear h1 h2 h3 h4
  have d1 : decide ((s.size : Int) < 1) = false := by simp; omega
  by_cases h5 : s.size ≤ 32
  · have d2 : decide ((32 : Int) < (s.size : Int)) = false := by simp; omega
    have HSL : Hid (s.data.toList.length = s.size) := Lib.hid (Lib.size_eq s).symm
    go_enter Try.func20, Try.ntmps20
    go_wp2_with fail
    go_loop [3] (fun i => RyI s.data.toList i) (fun i => s.size - (intOf i).toNat)
    case atStart => exact ⟨0, by omega, rfl, by simp, by simp⟩
    case round =>
      obtain ⟨k, hk, rfl, hn0, hn47⟩ := hrel
      have HN0 := Lib.hid hn0
      have HN47 := Lib.hid hn47
      rw [HSL.out] at hk
      clear hn0 hn47
      by_cases hlt : k < s.size
      · obtain ⟨x, hx⟩ : ∃ x : UInt8, s[k]'hlt = x := ⟨_, rfl⟩
        have HX : Hid (s.data.toList[k]? = some x) := Lib.hid (by rw [← hx]; exact Lib.data_getElem? s k hlt)
        by_cases x0 : x = 0
        · subst x0
          have HF : Hid (mayL s.data.toList = false) := Lib.hid (by rw [HM.out, decide_eq_false_iff_not]; rintro ⟨_, h, _⟩; exact h (List.mem_of_getElem? HX.out))
          go_wp2_with fail
          go_ret
          exact ⟨by rw [HF.out]; rfl, rfl⟩
        · have b0 : ((x.toNat : Int) == 0) = false := u8_ne (n := 0) (by decide) x0
          have HX0 := Lib.hid x0
          clear x0
          by_cases x47 : x = 47
          · subst x47
            have HF : Hid (mayL s.data.toList = false) := Lib.hid (by rw [HM.out, decide_eq_false_iff_not]; rintro ⟨_, _, h⟩; exact h (List.mem_of_getElem? HX.out))
            go_wp2_with fail
            go_ret
            exact ⟨by rw [HF.out]; rfl, rfl⟩
          · have b47 : ((x.toNat : Int) == 47) = false := u8_ne (n := 47) (by decide) x47
            have HX47 := Lib.hid x47
            clear x47
            go_wp2_with fail
            go_round
            case rel =>
              refine ⟨k + 1, by rw [HSL.out]; omega, by go_num, ?_, ?_⟩
              · rw [List.take_add_one, HX.out]; simp; exact ⟨HN0.out, fun e => HX0.out e.symm⟩
              · rw [List.take_add_one, HX.out]; simp; exact ⟨HN47.out, fun e => HX47.out e.symm⟩
            case measure => simp [intOf]; omega
      · obtain rfl : k = s.size := by omega
        have HF : Hid (mayL s.data.toList = true) := Lib.hid (by
          have a := HN0.out
          have b := HN47.out
          rw [List.take_of_length_le (by rw [HSL.out]; exact Nat.le_refl _)] at a b
          rw [HM.out]; simp [h5, a, b])
        go_wp2_with fail
        go_ret
        exact ⟨by rw [HF.out]; rfl, rfl⟩
  · have d2 : decide ((32 : Int) < (s.size : Int)) = true := by simp; omega
    go_enter Try.func20, Try.ntmps20
    go_wp2
    go_ret
    exact ⟨by rw [HM.out]; simp [h5], rfl⟩
def RsI (w : World) (l : List UInt8) (out one i : Value) (wr : World) : Prop := ∃ (k : Nat) (dn : List (List UInt8)) (cur : List UInt8) (O : ByteArray), i = .int .i64 k ∧ one = .string O ∧ O.data.toList = cur ∧ ((k ≤ l.length ∧ pcs [] l = dn ++ pcs cur (l.drop k)) ∨ (k = l.length + 1 ∧ pcs [] l = dn)) ∧ dn.all mayL = true ∧ dn.length + cur.length ≤ k ∧ wr.ownsRow w.heap.size 9 1 out dn.length (dn.map strV) ∧ Below w.heap.size w wr
theorem append_toList (a b : ByteArray) : (a ++ b).data.toList = a.data.toList ++ b.data.toList := by
  rw [ByteArray.data_append, Array.toList_append]
set_option maxHeartbeats 8000000 in
theorem refsplit_any (w : World) (l : List UInt8) (hl : l.length ≤ 100000) : Calls Try.prog 16 #[strV l] w fun e w' => ∃ v, e = .returned (.tuple #[v, .int .i64 (splE l)]) ∧ StrsV w.heap.size (splL l) v w' ∧ Below w.heap.size w w' := by
  have hsz : (⟨l.toArray⟩ : ByteArray).size = l.length := by simp [ByteArray.size]
  unfold strV
  by_cases h1 : 4096 < l.length
  · have hE : splE l = 40 := by unfold splE; rw [if_pos h1]
    have hL : splL l = [] := by unfold splL; rw [if_neg (by rw [hE]; simp)]
    rw [hE, hL]
    obtain ⟨S, hS⟩ : ∃ S : ByteArray, S = ⟨l.toArray⟩ := ⟨_, rfl⟩
    rw [← hS] at hsz ⊢
    have h2 : (4096 : Int) < (S.size : Int) := by omega
    clear hsz hS hE hL
    go_enter Try.func16, Try.ntmps16
    go_wp2_with fail
    go_ret2
    exact ⟨_, rfl, strs_nil _ _, Below.refl _ _⟩
  · by_cases h0 : l = []
    · subst h0
      go_enter Try.func16, Try.ntmps16
      go_wp2_with fail
      go_ret2
      exact ⟨_, rfl, strs_nil _ _, Below.refl _ _⟩
    · have HE : Hid (splE l = if (pcs [] l).all mayL then 0 else 56) := Lib.hid (by unfold splE; rw [if_neg h1, if_neg h0])
      have H0 := Lib.hid h0
      obtain ⟨S, hS⟩ : ∃ S : ByteArray, S = ⟨l.toArray⟩ := ⟨_, rfl⟩
      rw [← hS] at hsz ⊢
      have h2 : (S.size : Int) ≤ 4096 := by omega
      have h2n : S.size ≤ 4096 := by omega
      have h3 : S.toList.isEmpty = false := by rw [Lib.toList_data, hS]; cases l with | nil => exact absurd rfl h0 | cons _ _ => rfl
      have HSL : Hid (S.data.toList = l) := Lib.hid (by rw [hS])
      have HSZ : Hid (l.length = S.size) := Lib.hid hsz.symm
      have h2d : decide ((4096 : Int) < (S.size : Int)) = false := by simp; omega
      clear hsz hS h0 h1
      go_enter Try.func16, Try.ntmps16
      go_wp2_with fail
      go_loopw [4, 5, 6] (fun out one i wr => RsI w l out one i wr) (fun _ _ i _ => S.size + 1 - (intOf i).toNat)
      case atStart => exact ⟨0, [], [], ⟨#[]⟩, rfl, rfl, rfl, .inl ⟨by omega, by simp⟩, rfl, by simp, ⟨rfl, .inl ⟨rfl, rfl⟩⟩, Below.refl _ _⟩
      case round =>
        obtain ⟨i, dn, cur, O, rfl, rfl, hc, hcase, hall, hlen, ho, hb⟩ := hrel
        have HC := Lib.hid hc
        have HALL := Lib.hid hall
        have HO := Lib.hid ho
        have HB := Lib.hid hb
        have hOs : O.size = cur.length := by rw [Lib.size_eq, hc]
        have hOz : O.size ≤ i := by omega
        have hdl : dn.length ≤ i := by omega
        have HOS := Lib.hid hOs
        clear hc hall ho hb hOs
        rcases hcase with ⟨hi, hp⟩ | ⟨hi, hp⟩
        · have HP := Lib.hid hp
          rw [HSZ.out] at hi
          clear hp
          have hO1 : O.size ≤ 4096 := by omega
          by_cases hlt : i < S.size
          · obtain ⟨x, hx⟩ : ∃ x : UInt8, S[i]'hlt = x := ⟨_, rfl⟩
            have HX : Hid (l[i]? = some x) := Lib.hid (by rw [← HSL.out, ← hx]; exact Lib.data_getElem? S i hlt)
            have HDR : Hid (l.drop i = x :: l.drop (i + 1)) := Lib.hid (by
              have hil : i < l.length := by rw [HSZ.out]; exact hlt
              rw [List.drop_eq_getElem_cons hil]
              have := HX.out
              rw [List.getElem?_eq_getElem hil] at this
              rw [Option.some.inj this])
            by_cases x47 : x = 47
            · have HCUT : Hid (pcs cur (l.drop i) = cur :: pcs [] (l.drop (i + 1))) := Lib.hid (by rw [HDR.out, pcs, if_pos x47])
              subst x47
              go_wp2_with fail
              refine (refmay_any wr O (by omega)).mono ?_
              rintro e w2 ⟨rfl, rfl⟩
              rw [HC.out]
              cases hm : mayL cur with
              | false =>
                have HM := Lib.hid hm
                clear hm
                have HF : Hid (splE l = 56) := Lib.hid (by
                  have hf : (pcs [] l).all mayL = false := by rw [HP.out, HCUT.out]; simp [HM.out]
                  rw [HE.out, hf]; rfl)
                have HL : Hid (splL l = []) := Lib.hid (by unfold splL; rw [if_neg (by rw [HF.out]; simp)])
                go_wp2_with fail
                go_ret2
                rw [HF.out, HL.out]
                exact ⟨_, rfl, strs_nil _ _, HB.out⟩
              | true =>
                have HM := Lib.hid hm
                clear hm
                have HRW : Hid (RowAt (wr.alloc (.cells #[.string O] 9)) wr.heap.size 9 [.string O]) := Lib.hid (RowAt.new wr 9 _)
                have HB2 := Lib.hid ((Below.refl wr.heap.size wr).alloc (Nat.le_refl _) (.cells #[.string O] 9))
                have HB3 := Lib.hid (HB.out.trans (HB2.out.mono HB.out.size))
                obtain ⟨i0, z0, e1, e2, e3, e4, e5⟩ := info9
                obtain ⟨v', w', hrun, ho', hb'⟩ := run_app1 (P := Try.prog) (wr.alloc (.cells #[.string O] 9)) w.heap.size 35 35 9 i0 z0 1 16 Try.underlying35 e1 e2 e3 e4 e5 (by decide) _ dn.length _ (owns_next HO.out HB2.out) wr.heap.size 9 1 [.string O] HRW.out rfl (by simp [Value.oneCell']) (by unfold maxLen; omega) (by omega) HB3.out.size
                have HRUN := Lib.hid hrun
                have HO2 := Lib.hid ho'
                have HB4 := Lib.hid (HB3.out.trans hb')
                clear hrun ho' hb' e1 e2 e3 e4 e5
                go_wp2_with (at_builtin; refine wpList_app rfl (.tmp 39) (.tmp 41) 35 35 rfl rfl HRUN.out rfl rfl ?_)
                go_roundw
                case rel =>
                  refine ⟨i + 1, dn ++ [cur], [], ⟨#[]⟩, by go_num, rfl, rfl, .inl ⟨by rw [HSZ.out]; omega, by rw [HP.out, HCUT.out]; simp⟩, ?_, ?_, ?_, HB4.out⟩
                  · have := HALL.out
                    simp at this ⊢
                    exact ⟨this, HM.out⟩
                  · simp; omega
                  · have := HO2.out
                    rw [ba_ext HC.out] at this
                    simpa [strV] using this
                case measure => simp [intOf]; omega
            · have b47 : ((x.toNat : Int) == 47) = false := u8_ne (n := 47) (by decide) x47
              have b47n : ((x.toNat : Int) != 47) = true := by simpa using b47
              have HCUT : Hid (pcs cur (l.drop i) = pcs (cur ++ [x]) (l.drop (i + 1))) := Lib.hid (by rw [HDR.out, pcs, if_neg x47])
              clear x47
              go_wp2_with fail
              go_roundw
              case rel =>
                refine ⟨i + 1, dn, cur ++ [x], O ++ S.extract i (i + 1), by go_num, rfl, ?_, .inl ⟨by rw [HSZ.out]; omega, by rw [HP.out, HCUT.out]⟩, HALL.out, by simp; omega, HO.out, HB.out⟩
                rw [append_toList, HC.out, Lib.extract_data, HSL.out, HDR.out]
                simp
              case measure => simp [intOf]; omega
          · obtain rfl : i = S.size := by omega
            have HCUT : Hid (pcs cur (l.drop S.size) = [cur]) := Lib.hid (by rw [List.drop_of_length_le (by rw [HSZ.out]; exact Nat.le_refl _)]; rfl)
            go_wp2_with fail
            refine (refmay_any wr O (by omega)).mono ?_
            rintro e w2 ⟨rfl, rfl⟩
            rw [HC.out]
            cases hm : mayL cur with
            | false =>
              have HM := Lib.hid hm
              clear hm
              have HF : Hid (splE l = 56) := Lib.hid (by
                have hf : (pcs [] l).all mayL = false := by rw [HP.out, HCUT.out]; simp [HM.out]
                rw [HE.out, hf]; rfl)
              have HL : Hid (splL l = []) := Lib.hid (by unfold splL; rw [if_neg (by rw [HF.out]; simp)])
              go_wp2_with fail
              go_ret2
              rw [HF.out, HL.out]
              exact ⟨_, rfl, strs_nil _ _, HB.out⟩
            | true =>
              have HM := Lib.hid hm
              clear hm
              have HRW : Hid (RowAt (wr.alloc (.cells #[.string O] 9)) wr.heap.size 9 [.string O]) := Lib.hid (RowAt.new wr 9 _)
              have HB2 := Lib.hid ((Below.refl wr.heap.size wr).alloc (Nat.le_refl _) (.cells #[.string O] 9))
              have HB3 := Lib.hid (HB.out.trans (HB2.out.mono HB.out.size))
              obtain ⟨i0, z0, e1, e2, e3, e4, e5⟩ := info9
              obtain ⟨v', w', hrun, ho', hb'⟩ := run_app1 (P := Try.prog) (wr.alloc (.cells #[.string O] 9)) w.heap.size 35 35 9 i0 z0 1 16 Try.underlying35 e1 e2 e3 e4 e5 (by decide) _ dn.length _ (owns_next HO.out HB2.out) wr.heap.size 9 1 [.string O] HRW.out rfl (by simp [Value.oneCell']) (by unfold maxLen; omega) (by omega) HB3.out.size
              have HRUN := Lib.hid hrun
              have HO2 := Lib.hid ho'
              have HB4 := Lib.hid (HB3.out.trans hb')
              clear hrun ho' hb' e1 e2 e3 e4 e5
              go_wp2_with (at_builtin; refine wpList_app rfl (.tmp 39) (.tmp 41) 35 35 rfl rfl HRUN.out rfl rfl ?_)
              go_roundw
              case rel =>
                refine ⟨S.size + 1, dn ++ [cur], [], ⟨#[]⟩, by go_num, rfl, rfl, .inr ⟨by rw [HSZ.out], by rw [HP.out, HCUT.out]⟩, ?_, ?_, ?_, HB4.out⟩
                · have := HALL.out
                  simp at this ⊢
                  exact ⟨this, HM.out⟩
                · simp; omega
                · have := HO2.out
                  rw [ba_ext HC.out] at this
                  simpa [strV] using this
              case measure => simp [intOf]
        · have hi2 : i = S.size + 1 := by rw [hi, HSZ.out]
          have HF : Hid (splE l = 0) := Lib.hid (by rw [HE.out, hp, HALL.out]; rfl)
          have HL : Hid (splL l = dn) := Lib.hid (by unfold splL; rw [if_pos ⟨HF.out, H0.out⟩, hp])
          subst hi2
          clear hi hp
          go_wp2_with fail
          go_ret2
          rw [HF.out, HL.out]
          exact ⟨_, rfl, strs_owned (e := 9) HO.out, HB.out⟩
end Go.Proofs.Ytdjahdipaffajaa
