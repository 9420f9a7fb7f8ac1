/- May, Split. -/
import Derived.Test.YtdjahdipaffajaaWg
namespace Go.Proofs.Ytdjahdipaffajaa
open Go.RowKit
def snap : List UInt8 := [46, 115, 110, 97, 112, 115, 104, 111, 116]
def mayL (l : List UInt8) : Bool := decide (l ≠ [] ∧ l ≠ [46] ∧ l ≠ [46, 46] ∧ l ≠ snap ∧ l.length ≤ 32 ∧ 0 ∉ l ∧ 47 ∉ l)
theorem ba_ext {s : ByteArray} {l : List UInt8} (h : s.data.toList = l) : s = ⟨l.toArray⟩ := by
  obtain ⟨⟨d⟩⟩ := s
  simp at h
  rw [h]
theorem any_iff (l : List UInt8) : decide (0 ≤ Lib.indexAny l [0, 47]) = decide (0 ∈ l ∨ 47 ∈ l) := by
  induction l with
  | nil => rfl
  | cons b l ih =>
    have hge := Lib.indexAny_ge [0, 47] l
    rw [Lib.indexAny]
    by_cases h : ([0, 47] : List UInt8).contains b = true
    · rw [if_pos h]
      simp at h
      rcases h with rfl | rfl <;> simp
    · rw [if_neg h]
      simp at h
      have e : (0 ∈ b :: l ∨ 47 ∈ b :: l) ↔ (0 ∈ l ∨ 47 ∈ l) := by
        simp [List.mem_cons]
        constructor
        · rintro ((e | e) | (e | e))
          · exact absurd e.symm h.1
          · exact .inl e
          · exact absurd e.symm h.2
          · exact .inr e
        · rintro (e | e)
          · exact .inl (.inr e)
          · exact .inr (.inr e)
      rw [show decide (0 ∈ b :: l ∨ 47 ∈ b :: l) = decide (0 ∈ l ∨ 47 ∈ l) from by simp only [e], ← ih]
      by_cases h1 : Lib.indexAny l [0, 47] = -1
      · rw [h1]; simp
      · have : (Lib.indexAny l [0, 47] == -1) = false := by simpa using h1
        rw [this]
        simp
        constructor <;> intro <;> omega
set_option maxHeartbeats 1000000 in
theorem may_any (w : World) (s : ByteArray) (hs : s.size ≤ 100000) : Calls Try.prog 19 #[.string s] w fun e w' => e = .returned (.bool (mayL s.data.toList)) ∧ Below w.heap.size w w' := by
  by_cases h1 : s.data.toList = []
  · obtain rfl := ba_ext h1
    go_enter Try.func19, Try.ntmps19
    go_wp2
    go_ret
    exact ⟨rfl, Below.refl _ _⟩
  by_cases h2 : s.data.toList = [46]
  · obtain rfl := ba_ext h2
    go_enter Try.func19, Try.ntmps19
    go_wp2
    go_ret
    exact ⟨rfl, Below.refl _ _⟩
  by_cases h3 : s.data.toList = [46, 46]
  · obtain rfl := ba_ext h3
    go_enter Try.func19, Try.ntmps19
    go_wp2
    go_ret
    exact ⟨rfl, Below.refl _ _⟩
  by_cases h4 : s.data.toList = snap
  · obtain rfl := ba_ext h4
    go_enter Try.func19, Try.ntmps19
    go_wp2
    go_ret
    exact ⟨rfl, Below.refl _ _⟩
  have e1 : s.toList.isEmpty = false := by rw [Lib.toList_data]; cases h : s.data.toList with | nil => exact absurd h h1 | cons _ _ => rfl
  have e2 : (s.toList == [46]) = false := by rw [Lib.toList_data]; simpa using h2
  have e3 : (s.toList == [46, 46]) = false := by rw [Lib.toList_data]; simpa using h3
  have e4 : (s.toList == [46, 115, 110, 97, 112, 115, 104, 111, 116]) = false := by rw [Lib.toList_data]; simpa [snap] using h4
  have HM : Hid (mayL s.data.toList = (decide (s.size ≤ 32) && !decide (0 ≤ Lib.indexAny s.data.toList [0, 47]))) := Lib.hid (by
    unfold mayL
    rw [any_iff, Lib.size_eq]
    rw [Bool.eq_iff_iff]
    simp [h1, h2, h3, h4])
  clear h1 h2 h3 h4
  by_cases h5 : s.size ≤ 32
  · have h5i : (s.size : Int) ≤ 32 := by omega
    go_enter Try.func19, Try.ntmps19
    go_wp2_with fail
    refine (cany_any w s (by omega)).mono ?_
    rintro e w1 ⟨rfl, hb⟩
    have HB := Lib.hid hb
    clear hb
    go_wp2
    go_ret
    exact ⟨by rw [HM.out]; simp [h5], HB.out⟩
  · have h5i : (32 : Int) < (s.size : Int) := by omega
    go_enter Try.func19, Try.ntmps19
    go_wp2
    go_ret
    exact ⟨by rw [HM.out]; simp [h5], Below.refl _ _⟩
/-- The pieces between the slashes. -/
def pcs : List UInt8 → List UInt8 → List (List UInt8)
  | cur, [] => [cur]
  | cur, c :: l => if c = 47 then cur :: pcs [] l else pcs (cur ++ [c]) l
theorem pcs_pre {pre : List UInt8} (h : 47 ∉ pre) : ∀ (cur rest : List UInt8), pcs cur (pre ++ rest) = pcs (cur ++ pre) rest := by
  induction pre with
  | nil => intro cur rest; simp
  | cons c l ih =>
    intro cur rest
    simp at h
    rw [List.cons_append, pcs, if_neg (fun e => h.1 e.symm), ih h.2]
    simp
theorem pcs_cut {pre : List UInt8} (h : 47 ∉ pre) (post : List UInt8) : pcs [] (pre ++ 47 :: post) = pre :: pcs [] post := by
  rw [pcs_pre h, List.nil_append, pcs, if_pos rfl]
theorem pcs_last {pre : List UInt8} (h : 47 ∉ pre) : pcs [] pre = [pre] := by
  have := pcs_pre h [] []
  simpa [pcs] using this
/-- What Split tells. -/
def splE (l : List UInt8) : Int := if 4096 < l.length then 40 else if l = [] then 0 else if (pcs [] l).all mayL then 0 else 56
def splL (l : List UInt8) : List (List UInt8) := if splE l = 0 ∧ l ≠ [] then pcs [] l else []
def strV (l : List UInt8) : Value := .string ⟨l.toArray⟩
/-- A slice of texts. -/
def StrsV (B : Nat) (l : List (List UInt8)) (v : Value) (w : World) : Prop := ∃ a cap, v = .slice a l.length cap ∧ SliceAt w a l.length (l.map strV) ∧ (a = none → l.length = 0) ∧ ∀ x, a = some x → B ≤ x.block
theorem strs_owned {w : World} {base : Nat} {v : Value} {l : List (List UInt8)} {e : TypeId} (h : w.ownsRow base e 1 v l.length (l.map strV)) : StrsV base l v w := by
  obtain ⟨a, cap, rfl, h1⟩ := SliceAt.owned h
  refine ⟨a, cap, rfl, h1, ?_, ?_⟩
  · rintro rfl
    rcases h.2 with ⟨_, h2⟩ | ⟨g, cap, cur, h2, _⟩
    · exact h2
    · cases h2
  · rintro x rfl
    exact ownsRow_block h x.block rfl
theorem strs_nil (B : Nat) (w : World) : StrsV B [] (.slice none 0 0) w := ⟨none, 0, rfl, SliceAt.nil _ _, fun _ => rfl, fun _ h => by cases h⟩
theorem info9 : ∃ i z, Try.prog.info? 9 = some i ∧ i.zero = some z ∧ i.size = 1 ∧ i.bytes = 16 ∧ z.cells.size = 1 := ⟨_, _, rfl, rfl, rfl, rfl, rfl⟩
def SpI (w : World) (l : List UInt8) (out rest : Value) (wr : World) : Prop := ∃ (dn : List (List UInt8)) (r : List UInt8), pcs [] l = dn ++ pcs [] r ∧ dn.all mayL = true ∧ dn.length + r.length ≤ l.length ∧ rest = strV r ∧ wr.ownsRow w.heap.size 9 1 out dn.length (dn.map strV) ∧ Below w.heap.size w wr
def rlen : Value → Nat
  | .string s => s.size
  | _ => 0
def SpJ (r : List UInt8) (i : Value) : Prop := ∃ k : Nat, k ≤ r.length ∧ i = .int .i64 k ∧ 47 ∉ r.take k
set_option maxHeartbeats 8000000 in
theorem split_own (w : World) (l : List UInt8) (hl : l.length ≤ 100000) : Calls Try.prog 15 #[strV l] w fun e w' => ∃ v, e = .returned (.tuple #[v, .int .i64 (splE l)]) ∧ w'.ownsRow w.heap.size 9 1 v (splL l).length ((splL l).map strV) ∧ Below w.heap.size w w' := by
  have hsz : (⟨l.toArray⟩ : ByteArray).size = l.length := by simp [ByteArray.size]
  unfold strV
  by_cases h1 : 4096 < l.length
  · have hE : splE l = 40 := by unfold splE; rw [if_pos h1]
    have hL : splL l = [] := by unfold splL; rw [if_neg (by rw [hE]; simp)]
    rw [hE, hL]
    obtain ⟨S, hS⟩ : ∃ S : ByteArray, S = ⟨l.toArray⟩ := ⟨_, rfl⟩
    rw [← hS] at hsz ⊢
    have h2 : (4096 : Int) < (S.size : Int) := by omega
    clear hsz hS hE hL
    go_enter Try.func15, Try.ntmps15
    go_wp2_with fail
    go_step3
    go_wp2_with fail
    repeat rw [Exit.noGoto_ret]
    go_ret2
    exact ⟨_, rfl, ⟨rfl, .inl ⟨rfl, rfl⟩⟩, Below.refl _ _⟩
  · by_cases h0 : l = []
    · subst h0
      go_enter Try.func15, Try.ntmps15
      go_wp2_with fail
      go_step3
      go_wp2_with fail
      repeat rw [Exit.noGoto_ret]
      go_ret2
      exact ⟨_, rfl, ⟨rfl, .inl ⟨rfl, rfl⟩⟩, Below.refl _ _⟩
    · have HE : Hid (splE l = if (pcs [] l).all mayL then 0 else 56) := Lib.hid (by unfold splE; rw [if_neg h1, if_neg h0])
      have H0 := Lib.hid h0
      obtain ⟨S, hS⟩ : ∃ S : ByteArray, S = ⟨l.toArray⟩ := ⟨_, rfl⟩
      rw [← hS] at hsz ⊢
      have h2 : (S.size : Int) ≤ 4096 := by omega
      have h3 : S.toList.isEmpty = false := by rw [Lib.toList_data, hS]; cases l with | nil => exact absurd rfl h0 | cons _ _ => rfl
      have HS : Hid (Value.string S = strV l) := Lib.hid (by rw [hS]; rfl)
      have h4 : l.length ≤ 4096 := by omega
      have h2d : decide ((4096 : Int) < (S.size : Int)) = false := by simp; omega
      clear hsz hS h0 h1
      go_enter Try.func15, Try.ntmps15
      go_wp2_with fail
      go_step3
      go_wp2_with fail
      go_step3
      go_wp2_with fail
      go_loopw [4, 5] (fun out rest wr => SpI w l out rest wr) (fun _ rest _ => rlen rest)
      case atStart => exact ⟨[], l, rfl, rfl, by simp, HS.out, ⟨rfl, .inl ⟨rfl, rfl⟩⟩, Below.refl _ _⟩
      case round =>
        obtain ⟨O4, rfl⟩ : ∃ v, v = u4 := ⟨_, rfl⟩
        obtain ⟨dn, r, hp, hall, hlen, rfl, ho, hb⟩ := hrel
        have HP := Lib.hid hp
        have HALL := Lib.hid hall
        have HO := Lib.hid ho
        have HB := Lib.hid hb
        clear hp hall ho hb
        unfold strV
        obtain ⟨R, hR⟩ : ∃ R : ByteArray, R = ⟨r.toArray⟩ := ⟨_, rfl⟩
        have HR : Hid (R.data.toList = r) := Lib.hid (by rw [hR])
        have hRs : r.length = R.size := by rw [hR]; simp [ByteArray.size]
        rw [← hR]
        have hRz : R.size ≤ 4096 := by omega
        have HRS := Lib.hid hRs
        have hlen2 : dn.length + R.size ≤ l.length := by omega
        clear hR hRs hlen
        go_wp2_with fail
        obtain ⟨wo, hwo⟩ : ∃ wo : World, wo = wr := ⟨_, rfl⟩
        rw [← hwo]
        have HWO := Lib.hid hwo
        have HO : Hid (wo.ownsRow w.heap.size 9 1 O4 dn.length (dn.map strV)) := Lib.hid (by rw [hwo]; exact HO.out)
        have HB : Hid (Below w.heap.size w wo) := Lib.hid (by rw [hwo]; exact HB.out)
        clear hwo
        go_loop [4, 5, 15] (fun o4 r5 i => o4 = O4 ∧ r5 = .string R ∧ SpJ r i) (fun _ _ i => R.size - (intOf i).toNat)
        case atStart => exact ⟨rfl, rfl, 0, by omega, rfl, by simp⟩
        case round =>
          obtain ⟨rfl, rfl, k, hk, rfl, hno⟩ := hrel
          have HNO := Lib.hid hno
          rw [HRS.out] at hk
          clear hno
          by_cases hlt : k < R.size
          · obtain ⟨x, hx⟩ : ∃ x : UInt8, R[k]'hlt = x := ⟨_, rfl⟩
            have HX : Hid (r[k]? = some x) := Lib.hid (by rw [← HR.out, ← hx]; exact Lib.data_getElem? R k hlt)
            by_cases h47 : x = 47
            · subst h47
              have hx2 : (R[k]'hlt).toNat = 47 := by rw [hx]; rfl
              clear hx
              have HSP : Hid (r = r.take k ++ 47 :: r.drop (k + 1)) := Lib.hid (by
                have hkl : k < r.length := by rw [HRS.out]; exact hlt
                have := (List.take_append_drop k r).symm
                rw [List.drop_eq_getElem_cons hkl] at this
                have e : r[k] = 47 := by have := HX.out; rw [List.getElem?_eq_getElem hkl] at this; exact Option.some.inj this
                rw [e] at this
                exact this)
              go_wp2_with fail
              obtain ⟨E1, hE1⟩ : ∃ E : ByteArray, E = R.extract 0 k := ⟨_, rfl⟩
              have HE1 : Hid (E1.data.toList = r.take k) := Lib.hid (by rw [hE1, Lib.extract_data, HR.out]; simp)
              rw [← hE1]
              have hE1s : E1.size ≤ 4096 := by rw [Lib.size_eq, HE1.out]; have := HRS.out; simp; omega
              have hEx : R.extract 0 k = E1 := hE1.symm
              clear hE1
              have HMAY := Lib.hid (may_any wo E1 (by omega))
              refine HMAY.out.mono ?_
              rintro e w2 ⟨rfl, hbc⟩
              have HBC := Lib.hid hbc
              clear hbc HMAY
              rw [HE1.out]
              cases hm : mayL (r.take k) with
              | false =>
                have HM := Lib.hid hm
                clear hm
                go_wp2_with fail
                repeat rw [Exit.noGoto_ret]
                go_wp2
                repeat rw [Exit.noGoto_ret]
                have hf : (pcs [] l).all mayL = false := by
                  rw [HP.out, HSP.out, pcs_cut HNO.out]
                  simp [HM.out]
                have hE : splE l = 56 := by rw [HE.out, hf]; rfl
                have hL : splL l = [] := by unfold splL; rw [if_neg (by rw [hE]; simp)]
                go_ret2
                rw [hE, hL]
                exact ⟨_, rfl, ⟨rfl, .inl ⟨rfl, rfl⟩⟩, HB.out.trans (HBC.out.mono HB.out.size)⟩
              | true =>
                have HM := Lib.hid hm
                clear hm
                have HRW : Hid (RowAt (w2.alloc (.cells #[.string E1] 9)) w2.heap.size 9 [.string E1]) := Lib.hid (RowAt.new w2 9 _)
                have HB2 := Lib.hid ((Below.refl w2.heap.size w2).alloc (Nat.le_refl _) (.cells #[.string E1] 9))
                have HO1 := Lib.hid (owns_next HO.out HBC.out)
                have HBo := Lib.hid (HB.out.trans (HBC.out.mono HB.out.size))
                have HB3 := Lib.hid (HBo.out.trans (HB2.out.mono HBo.out.size))
                obtain ⟨i0, z0, e1, e2, e3, e4, e5⟩ := info9
                obtain ⟨v', w', hrun, ho', hb'⟩ := run_app1 (P := Try.prog) (w2.alloc (.cells #[.string E1] 9)) w.heap.size 35 35 9 i0 z0 1 16 Try.underlying35 e1 e2 e3 e4 e5 (by decide) _ dn.length _ (owns_next HO1.out HB2.out) w2.heap.size 9 1 [.string E1] HRW.out rfl (by simp [Value.oneCell']) (by unfold maxLen; omega) (by omega) HB3.out.size
                have HRUN := Lib.hid hrun
                have HO2 := Lib.hid ho'
                have HB4 := Lib.hid (HB3.out.trans hb')
                clear hrun ho' hb' e1 e2 e3 e4 e5
                obtain ⟨E2, hE2⟩ : ∃ E : ByteArray, E = R.extract (k + 1) R.size := ⟨_, rfl⟩
                have HE2 : Hid (E2.data.toList = r.drop (k + 1)) := Lib.hid (by rw [hE2, Lib.extract_to_end, HR.out])
                have hEy : R.extract (k + 1) R.size = E2 := hE2.symm
                clear hE2
                go_wp2_with (at_builtin; refine wpList_app rfl (.tmp 27) (.tmp 31) 35 35 rfl rfl HRUN.out rfl rfl ?_)
                go_roundw
                case rel =>
                  have hcut := pcs_cut HNO.out (r.drop (k + 1))
                  rw [← HSP.out] at hcut
                  refine ⟨dn ++ [r.take k], r.drop (k + 1), by rw [HP.out, hcut]; simp, ?_, ?_, ?_, ?_, HB4.out⟩
                  · have := HALL.out
                    simp at this ⊢
                    exact ⟨this, HM.out⟩
                  · have := HRS.out
                    simp
                    omega
                  · rw [ba_ext HE2.out]; rfl
                  · have := HO2.out
                    rw [ba_ext HE1.out] at this
                    simpa [strV] using this
                case measure =>
                  have h5 : E2.size = R.size - (k + 1) := by rw [Lib.size_eq, HE2.out, List.length_drop, HRS.out]
                  simp [rlen, h5]
                  omega
            · have hx1 : ((R[k]'hlt).toNat : Int) ≠ 47 := by
                rw [hx]
                intro e
                exact h47 (by have : x.toNat = 47 := by omega
                              exact UInt8.toNat_inj.1 this)
              have hx2 : (((R[k]'hlt).toNat : Int) == 47) = false := by simpa using hx1
              have hx3 : (((R[k]'hlt).toNat : Int) != 47) = true := by simpa using hx1
              clear hx hx1
              have HN47 := Lib.hid h47
              clear h47
              go_wp2_with fail
              go_round
              case rel =>
                refine ⟨rfl, rfl, k + 1, by rw [HRS.out]; omega, by go_num, ?_⟩
                rw [List.take_add_one, HX.out]
                simp
                exact ⟨HNO.out, fun e => HN47.out e.symm⟩
              case measure => simp [intOf]; omega
          · obtain rfl : k = R.size := by omega
            have HNR : Hid (47 ∉ r) := Lib.hid (by
              have := HNO.out
              rwa [List.take_of_length_le (by rw [HRS.out]; exact Nat.le_refl _)] at this)
            clear HNO
            have HPL : Hid (pcs [] l = dn ++ [r]) := Lib.hid (by rw [HP.out, pcs_last HNR.out])
            have HMAY := Lib.hid (may_any wo R (by omega))
            go_wp2_with fail
            refine HMAY.out.mono ?_
            rintro e w2 ⟨rfl, hbc⟩
            have HBC := Lib.hid hbc
            clear hbc HMAY
            rw [HR.out]
            cases hm : mayL r with
            | false =>
              have HM := Lib.hid hm
              clear hm
              go_wp2_with fail
              repeat rw [Exit.noGoto_ret]
              go_wp2
              repeat rw [Exit.noGoto_ret]
              have hf : (pcs [] l).all mayL = false := by
                rw [HPL.out]
                simp [HM.out]
              have hE : splE l = 56 := by rw [HE.out, hf]; rfl
              have hL : splL l = [] := by unfold splL; rw [if_neg (by rw [hE]; simp)]
              go_ret2
              rw [hE, hL]
              exact ⟨_, rfl, ⟨rfl, .inl ⟨rfl, rfl⟩⟩, HB.out.trans (HBC.out.mono HB.out.size)⟩
            | true =>
              have HM := Lib.hid hm
              clear hm
              have HRW : Hid (RowAt (w2.alloc (.cells #[.string R] 9)) w2.heap.size 9 [.string R]) := Lib.hid (RowAt.new w2 9 _)
              have HB2 := Lib.hid ((Below.refl w2.heap.size w2).alloc (Nat.le_refl _) (.cells #[.string R] 9))
              have HO1 := Lib.hid (owns_next HO.out HBC.out)
              have HBo := Lib.hid (HB.out.trans (HBC.out.mono HB.out.size))
              have HB3 := Lib.hid (HBo.out.trans (HB2.out.mono HBo.out.size))
              obtain ⟨i0, z0, e1, e2, e3, e4, e5⟩ := info9
              obtain ⟨v', w', hrun, ho', hb'⟩ := run_app1 (P := Try.prog) (w2.alloc (.cells #[.string R] 9)) w.heap.size 35 35 9 i0 z0 1 16 Try.underlying35 e1 e2 e3 e4 e5 (by decide) _ dn.length _ (owns_next HO1.out HB2.out) w2.heap.size 9 1 [.string R] HRW.out rfl (by simp [Value.oneCell']) (by unfold maxLen; omega) (by omega) HB3.out.size
              have HRUN := Lib.hid hrun
              have HO2 := Lib.hid ho'
              have HB4 := Lib.hid (HB3.out.trans hb')
              clear hrun ho' hb' e1 e2 e3 e4 e5
              go_wp2_with (at_builtin; refine wpList_app rfl (.tmp 41) (.tmp 43) 35 35 rfl rfl HRUN.out rfl rfl ?_)
              repeat rw [Exit.noGoto_ret]
              have hf : (pcs [] l).all mayL = true := by
                rw [HPL.out]
                have := HALL.out
                simp at this ⊢
                exact ⟨this, HM.out⟩
              have hE : splE l = 0 := by rw [HE.out, hf]; rfl
              have hL : splL l = dn ++ [r] := by unfold splL; rw [if_pos ⟨hE, H0.out⟩, HPL.out]
              go_ret2
              rw [hE, hL]
              refine ⟨_, rfl, ?_, HB4.out⟩
              have := HO2.out
              rw [ba_ext HR.out] at this
              rw [List.map_append, List.length_append]
              exact this
theorem split_any (w : World) (l : List UInt8) (hl : l.length ≤ 100000) : Calls Try.prog 15 #[strV l] w fun e w' => ∃ v, e = .returned (.tuple #[v, .int .i64 (splE l)]) ∧ StrsV w.heap.size (splL l) v w' ∧ Below w.heap.size w w' := by
  refine (split_own w l hl).mono ?_
  rintro e w' ⟨v, rfl, ho, hb⟩
  exact ⟨v, rfl, strs_owned ho, hb⟩
end Go.Proofs.Ytdjahdipaffajaa
