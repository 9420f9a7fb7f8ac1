/- NameTexts: the walk. -/
import Derived.Test.YtdjahdipaffajaaWm
namespace Go.Proofs.Ytdjahdipaffajaa
open Go.RowKit
theorem owned_cap {w : World} {base : Nat} {v : Value} {n : Nat} {l : List Value} {e : TypeId} (h : w.ownsRow base e 1 v n l) : ∃ a cap, v = .slice a n cap ∧ SliceAt w a n l ∧ n ≤ cap := by
  obtain ⟨a, cap, rfl, h1⟩ := SliceAt.owned h
  refine ⟨a, cap, rfl, h1, ?_⟩
  rcases h.2 with ⟨h2, rfl⟩ | ⟨g, cap', cur, h2, _, _, h3, _⟩
  · exact Nat.zero_le _
  · cases h2; exact h3
theorem same_eq (w : World) (A B : Option Addr) (n c1 c2 : Nat) (a : List (List UInt8)) (ha : SliceAt w A n (a.map strV)) (hb : SliceAt w B n (a.map strV)) (hn : n ≤ 100000) :
    Calls Try.prog 21 #[.slice A n c1, .slice B n c2] w fun e w' => e = .returned (.bool true) ∧ Below w.heap.size w w' := by
  refine (same_any w A B n n c1 c2 a a ha hb hn hn).mono ?_
  rintro e w' ⟨rfl, h⟩
  exact ⟨by simp, h⟩
def SpS (wS : World) (g n : Nat) (i : Value) (wr : World) : Prop := ∃ (k : Nat) (L : List Value), k ≤ n ∧ i = .int .i64 k ∧ RowAt wr g 9 L ∧ n ≤ L.length ∧ Fr (· = g) wS wr
theorem spl_len (l : List UInt8) : (splL l).length ≤ l.length + 1 := by
  unfold splL
  split
  · have : ∀ (l cur : List UInt8), (pcs cur l).length ≤ l.length + 1 := by
      intro l
      induction l with
      | nil => intro cur; simp [pcs]
      | cons c l ih =>
        intro cur
        rw [pcs]
        split
        · have := ih []; simp; omega
        · have := ih (cur ++ [c]); simp; omega
    exact this l []
  · simp
set_option maxRecDepth 20000 in
set_option maxHeartbeats 16000000 in
theorem texts_law (w : World) (s : ByteArray) (hsm : s.size ≤ maxLen) (a : Option Addr) (n cap : Nat) (l : List (List UInt8)) (hs : SliceAt w a n (l.map strV)) (hm : n ≤ maxLen) (han : a = none → n = 0) (hz : ∀ x ∈ l, x.length ≤ maxLen) :
    Calls Try.prog 5 #[.string s, .slice a n cap] w fun e w' => e = .returned (.bool true) ∧ Below w.heap.size w w' := by
  have HLG := Lib.hid (long_any w a n cap l hs hm hz)
  have HSL := Lib.hid hs
  have hln : l.length = n := by have := hs.1; simpa using this
  have HLN := Lib.hid hln
  have HAN := Lib.hid han
  unfold maxLen at hsm hm
  clear hs hz hln han
  by_cases h6 : s.size ≤ 6000
  · have h61 : (s.size : Int) ≤ 6000 := by omega
    have h6d : decide ((6000 : Int) < (s.size : Int)) = false := by simp; omega
    go_enter Try.func5, Try.ntmps5
    go_wp2_with fail
    refine HLG.out.mono ?_
    rintro e w0 ⟨⟨b, rfl, hlp⟩, rfl⟩
    cases b with
    | true =>
      clear hlp
      go_wp2_with fail
      refine (awake_any w).mono ?_
      rintro e w1 ⟨rfl, hb⟩
      have HB := Lib.hid hb
      clear hb
      go_wp2
      go_ret
      exact ⟨rfl, HB.out⟩
    | false =>
      obtain ⟨hl1, hl2⟩ := hlp rfl
      have HK : Hid (lenOk l) := Lib.hid ⟨by omega, fun x hx => by have := hl2 x hx; omega⟩
      have hn200 : n ≤ 200 := by rw [← HLN.out]; exact hl1
      clear hlp hl1 hl2 HLG
      obtain ⟨S, hS⟩ : ∃ S, S = s.data.toList := ⟨_, rfl⟩
      have hSl : S.length ≤ 6000 := by rw [hS, ← Lib.size_eq]; exact h6
      have hsv : Value.string s = strV S := by rw [hS]; rw [ba_ext (s := s) rfl]; rfl
      have HSV := Lib.hid hsv
      have HSP := Lib.hid (split_own w S (by omega))
      have HSE := Lib.hid hS
      rw [← hsv] at HSP
      clear hsv hS
      go_wp2_with fail
      refine HSP.out.mono ?_
      rintro e w2 ⟨v1, rfl, ho1, hb⟩
      have HB2 := Lib.hid hb
      have HO1 := Lib.hid ho1
      clear hb ho1 HSP
      have hrs := refsplit_any w2 S (by omega)
      rw [← HSV.out] at hrs
      have HRS := Lib.hid hrs
      clear hrs
      go_wp2_with fail
      refine HRS.out.mono ?_
      rintro e w3 ⟨v2, rfl, hv2, hb⟩
      have HB23 := Lib.hid hb
      have HB3 := Lib.hid (bt HB2.out hb)
      have HV2 := Lib.hid hv2
      have HO13 := Lib.hid (owns_next HO1.out hb)
      clear hb hv2 HRS
      -- the copy of the names
      have HO0 : Hid ((w3.alloc (.cells #[] 9)).ownsRow w3.heap.size 9 1 (.slice (some ⟨w3.heap.size, 0, none⟩) 0 0) 0 []) := Lib.hid (World.ownsRow_lit (base := w3.heap.size) (e := 9) (size := 1) w3 #[] 0 (Nat.le_refl _) (by unfold maxLen; omega) rfl)
      have HBa := Lib.hid ((Below.refl w3.heap.size w3).alloc (Nat.le_refl _) (.cells #[] 9))
      obtain ⟨i0, z0, e1, e2, e3, e4, e5⟩ := info9
      obtain ⟨vi, w4, hrun, hoi, _, _, hb4⟩ := run_app (P := Try.prog) (w3.alloc (.cells #[] 9)) w3.heap.size 35 35 9 i0 z0 16 Try.underlying35 e1 e2 e3 e4 e5 (.slice (some ⟨w3.heap.size, 0, none⟩) 0 0) 0 [] HO0.out a n cap (l.map strV) (HSL.out.next (bt HB3.out HBa.out)) HAN.out (fun u hu => by obtain ⟨y, _, rfl⟩ := List.mem_map.1 hu; rfl) (by unfold maxLen; omega) (by omega) HBa.out.size
      rw [Nat.zero_add, List.nil_append] at hoi
      have HRUN := Lib.hid hrun
      have HOI := Lib.hid hoi
      have HB34 := Lib.hid (HBa.out.trans hb4)
      have HB4 := Lib.hid (bt HB3.out HB34.out)
      clear hrun hoi hb4 e1 e2 e3 e4 e5
      obtain ⟨ai, ci, rfl, hsi, hci⟩ := owned_cap HOI.out
      have HSI := Lib.hid hsi
      clear hsi
      go_wp2_with (at_builtin; refine wpList_app rfl (.tmp 33) (.tmp 34) 35 35 rfl rfl HRUN.out rfl rfl ?_)
      refine (join_any w4 ai n ci l HSI.out hci HK.out).mono ?_
      rintro e w5 ⟨rfl, hb⟩
      have HB5 := Lib.hid (bt HB4.out hb)
      have HB35 := Lib.hid (bt HB34.out hb)
      have HSI5 := Lib.hid (HSI.out.next hb)
      clear hb
      unfold strV
      obtain ⟨JB, hJB⟩ : ∃ J : ByteArray, J = ⟨(joinL l).toArray⟩ := ⟨_, rfl⟩
      obtain ⟨je, hje⟩ : ∃ j, j = joinE l := ⟨_, rfl⟩
      have hrj := refjoin_any w5 a n cap l (HSL.out.next HB5.out) HK.out
      unfold strV at hrj
      rw [← hJB, ← hje] at hrj
      rw [← hJB, ← hje]
      have HRJ := Lib.hid hrj
      clear hrj hJB hje
      go_wp2_with fail
      refine HRJ.out.mono ?_
      rintro e w6 ⟨rfl, rfl⟩
      have hmy := may_any w5 s (by omega)
      rw [← HSE.out] at hmy
      have HMY := Lib.hid hmy
      clear hmy HRJ
      go_wp2_with fail
      refine HMY.out.mono ?_
      rintro e w7 ⟨rfl, hb⟩
      have HB7 := Lib.hid (bt HB5.out hb)
      have HB37 := Lib.hid (bt HB35.out hb)
      have HSI7 := Lib.hid (HSI5.out.next hb)
      clear hb HMY
      have hrm := refmay_any w7 s (by omega)
      rw [← HSE.out] at hrm
      have HRM := Lib.hid hrm
      clear hrm
      go_wp2_with fail
      refine HRM.out.mono ?_
      rintro e w8 ⟨rfl, rfl⟩
      obtain ⟨mb, hmb⟩ : ∃ m, m = mayL S := ⟨_, rfl⟩
      rw [← hmb]
      clear hmb HRM
      have hspl := spl_len S
      obtain ⟨a1, c1, rfl, hs1, _⟩ := owned_cap HO13.out
      obtain ⟨a2, c2, rfl, hs2, hn2, hbk2⟩ := HV2.out
      have HS2 := Lib.hid hs2
      have HBK2 := Lib.hid hbk2
      have HSM1 := Lib.hid (same_eq w7 a1 a2 _ c1 c2 _ (hs1.next HB37.out) (hs2.next HB37.out) (by omega))
      obtain ⟨m, hm'⟩ : ∃ m, m = (splL S).length := ⟨_, rfl⟩
      rw [← hm'] at HSM1 HS2 HO13 hspl ⊢
      have HMM := Lib.hid hm'
      clear hs1 hs2 hn2 hbk2 hm'
      obtain ⟨se, hse⟩ : ∃ x, x = splE S := ⟨_, rfl⟩
      rw [← hse]
      have HSEE := Lib.hid hse
      clear hse
      go_wp2_with fail
      refine HSM1.out.mono ?_
      rintro e w9 ⟨rfl, hb⟩
      have HB9 := Lib.hid (bt HB7.out hb)
      have HB39 := Lib.hid (bt HB37.out hb)
      have HSI9 := Lib.hid (HSI7.out.next hb)
      clear hb HSM1
      go_wp2_with fail
      refine (same_eq w9 ai a n ci cap l HSI9.out (HSL.out.next HB9.out) (by omega)).mono ?_
      rintro e w10 ⟨rfl, hb⟩
      have HB10 := Lib.hid (bt HB9.out hb)
      have HB310 := Lib.hid (bt HB39.out hb)
      clear hb
      go_wp2_with fail
      have hfin : ∀ wz : World, Below w.heap.size w wz → SliceAt wz a2 m ((splL S).map strV) → Calls Try.prog 15 #[.string s] wz fun e w' => ∃ v, e = .returned (.tuple #[v, .int .i64 se]) ∧ (∃ a' c', v = .slice a' m c' ∧ SliceAt w' a' m ((splL S).map strV)) ∧ SliceAt w' a2 m ((splL S).map strV) ∧ Below w.heap.size w w' := by
        intro wz hbz hs2z
        have h := split_any wz S (by omega)
        rw [← HSV.out, ← HSEE.out] at h
        refine h.mono ?_
        rintro e w' ⟨v, rfl, ⟨a', c', rfl, hsl', _⟩, hb'⟩
        rw [← HMM.out] at hsl'
        exact ⟨_, rfl, ⟨a', c', by rw [← HMM.out], hsl'⟩, hs2z.next hb', hbz.trans (hb'.mono hbz.size)⟩
      have HFIN := Lib.hid hfin
      clear hfin
      have HS210 := Lib.hid (HS2.out.next HB310.out)
      rcases HO13.out.2 with ⟨h1, h2⟩ | ⟨g, cap', cur, h1, h2, h3, h4, h5, h6, h7⟩
      · have HBE := HB10
        have HS2E := HS210
        subst h2
        clear h1
        go_loop [14] (fun i => i = .int .i64 0) (fun _ => 0)
        case atStart => exact rfl
        case round =>
          obtain rfl := hrel
          go_wp2_with fail
          refine (HFIN.out _ HBE.out HS2E.out).mono ?_
          rintro e w11 ⟨v, rfl, ⟨a', c', rfl, hsl'⟩, hs2', hb'⟩
          have HSN := Lib.hid hsl'
          have HS2N := Lib.hid hs2'
          have HB11 := Lib.hid hb'
          clear hsl' hs2' hb'
          go_wp2_with fail
          refine (same_eq w11 a' a2 0 c' c2 _ HSN.out HS2N.out (by omega)).mono ?_
          rintro e w12 ⟨rfl, hb⟩
          have HB12 := Lib.hid (HB11.out.trans (hb.mono HB11.out.size))
          clear hb
          go_wp2_with fail
          refine (awake_any w12).mono ?_
          rintro e w13 ⟨rfl, hb⟩
          have HB13 := Lib.hid (HB12.out.trans (hb.mono HB12.out.size))
          clear hb
          go_wp2
          go_ret
          exact ⟨rfl, HB13.out⟩
      · cases h1
        have hg3 : g < w3.heap.size := (Array.getElem?_eq_some_iff.1 h3).1
        have hg2 : g < w2.heap.size := by
          rcases HO1.out.2 with ⟨h1, _⟩ | ⟨g', _, _, h1, _, h3', _⟩
          · cases h1
          · cases h1; exact (Array.getElem?_eq_some_iff.1 h3').1
        have HR0 : Hid (RowAt w10 g 9 cur.toList) := Lib.hid (by
          have : RowAt w3 g 9 cur.toList := h3
          exact this.next HB310.out)
        have hcl : m ≤ cur.toList.length := by simp [h6]; omega
        have HG2 : Hid (∀ x, a2 = some x → ¬ x.block = g) := Lib.hid (fun x hx e => by have := HBK2.out x hx; omega)
        have hwg : w.heap.size ≤ g := h2
        clear h2 h3 h4 h5 h6 h7
        go_loopw [14] (fun i wz => SpS w10 g m i wz) (fun i _ => m - (intOf i).toNat)
        case atStart => exact ⟨0, cur.toList, by omega, rfl, HR0.out, hcl, Fr.refl _ _⟩
        case round =>
          obtain ⟨k, L, hk, rfl, hr, hl, hf⟩ := hrel
          have HR := Lib.hid hr
          have HF := Lib.hid hf
          clear hr hf
          by_cases hlt : k < m
          · obtain ⟨y, hy⟩ : ∃ y, L[k]? = some y := ⟨L[k]'(by omega), List.getElem?_eq_getElem _⟩
            have d1 := (HR.out.cell k).trans hy
            have f1 := HR.out.free k
            clear hy
            go_wp2_with fail
            go_roundw
            case rel => exact ⟨k + 1, L.set k (.string ⟨#[115, 112, 111, 105, 108, 116]⟩), by omega, by go_num, HR.out.set k _, by simp; omega, HF.out.setCell rfl _⟩
            case measure => simp [intOf]; omega
          · obtain rfl : k = m := by omega
            have HBE : Hid (Below w.heap.size w wr) := Lib.hid (Below.fr HB10.out HF.out HB10.out.size (fun j hj => by have : j = g := hj; omega))
            have HS2E := Lib.hid (HS210.out.fr HF.out HG2.out)
            go_wp2_with fail
            refine (HFIN.out _ HBE.out HS2E.out).mono ?_
            rintro e w11 ⟨v, rfl, ⟨a', c', rfl, hsl'⟩, hs2', hb'⟩
            have HSN := Lib.hid hsl'
            have HS2N := Lib.hid hs2'
            have HB11 := Lib.hid hb'
            clear hsl' hs2' hb'
            go_wp2_with fail
            refine (same_eq w11 a' a2 k c' c2 _ HSN.out HS2N.out (by omega)).mono ?_
            rintro e w12 ⟨rfl, hb⟩
            have HB12 := Lib.hid (HB11.out.trans (hb.mono HB11.out.size))
            clear hb
            go_wp2_with fail
            refine (awake_any w12).mono ?_
            rintro e w13 ⟨rfl, hb⟩
            have HB13 := Lib.hid (HB12.out.trans (hb.mono HB12.out.size))
            clear hb
            go_wp2
            go_ret
            exact ⟨rfl, HB13.out⟩
  · have h61 : (6000 : Int) < (s.size : Int) := by omega
    go_enter Try.func5, Try.ntmps5
    go_wp2_with fail
    refine (awake_any w).mono ?_
    rintro e w1 ⟨rfl, hb⟩
    have HB := Lib.hid hb
    clear hb
    go_wp2
    go_ret
    exact ⟨rfl, HB.out⟩
theorem strs_conv (ss : List ByteArray) : (ss.map (·.data.toList)).map strV = ss.map Value.string := by
  rw [List.map_map]
  apply List.map_congr_left
  intro s _
  show strV s.data.toList = _
  unfold strV
  rw [← ba_ext (s := s) rfl]
theorem texts_row (w : World) (s : ByteArray) (hs : s.size ≤ maxLen) (a : Option Addr) (n cap : Nat) (ss : List ByteArray) (hl : n ≤ cap) (hm : cap ≤ maxLen) (hn : a = none → cap = 0) (hi : SliceAt w a n (ss.map Value.string)) (hw : ∀ s ∈ ss, s.size ≤ maxLen) :
    Calls Try.prog 5 #[.string s, .slice a n cap] w fun e w' => e = .returned (.bool true) ∧ Below w.heap.size w w' :=
  texts_law w s hs a n cap (ss.map (·.data.toList)) (by rw [strs_conv]; exact hi) (Nat.le_trans hl hm) (fun h => by have := hn h; omega) (fun x hx => by obtain ⟨y, hy, rfl⟩ := List.mem_map.1 hx; rw [← Lib.size_eq]; exact hw y hy)
end Go.Proofs.Ytdjahdipaffajaa
