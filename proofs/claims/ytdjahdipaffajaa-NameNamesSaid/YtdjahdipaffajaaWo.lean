/- NameBack: the walk. -/
import Derived.Test.YtdjahdipaffajaaWn
namespace Go.Proofs.Ytdjahdipaffajaa
open Go.RowKit
theorem jn_cons (x : List UInt8) (l : List (List UInt8)) (h : l ≠ []) : jn (x :: l) = x ++ 47 :: jn l := by
  cases l with
  | nil => exact absurd rfl h
  | cons y r => unfold jn; rw [Lib.join_cons, Lib.join_cons]; simp [Lib.joinTail]
theorem pcs_ne (cur l : List UInt8) : pcs cur l ≠ [] := by
  induction l generalizing cur with
  | nil => simp [pcs]
  | cons c l ih => rw [pcs]; split; · simp
                   · exact ih _
theorem jn_pcs (cur l : List UInt8) : jn (pcs cur l) = cur ++ l := by
  induction l generalizing cur with
  | nil => simp [pcs, jn, Lib.join_one]
  | cons c l ih =>
    rw [pcs]
    split
    · rename_i h
      rw [jn_cons _ _ (pcs_ne _ _), ih, h]; rfl
    · rw [ih]; simp
theorem pcs_jn : ∀ (l : List (List UInt8)), l ≠ [] → (∀ x ∈ l, 47 ∉ x) → pcs [] (jn l) = l
  | [], h, _ => absurd rfl h
  | [x], _, hx => by
    have : jn [x] = x := by unfold jn; rw [Lib.join_one]
    rw [this, pcs_last (hx x (by simp))]
  | x :: y :: r, _, hx => by
    rw [jn_cons _ _ (by simp), pcs_cut (hx x (by simp)), pcs_jn (y :: r) (by simp) fun z hz => hx z (List.mem_cons_of_mem _ hz)]
theorem may_no47 {x : List UInt8} (h : mayL x = true) : 47 ∉ x ∧ x ≠ [] := by
  unfold mayL at h
  have := of_decide_eq_true h
  exact ⟨this.2.2.2.2.2.2, this.1⟩
theorem back1 {l : List (List UInt8)} (h : joinE l = 0) : joinL l = jn l ∧ (jn l).length ≤ 4096 ∧ splE (jn l) = 0 ∧ splL (jn l) = l := by
  have hj : joinL l = jn l := by unfold joinL; rw [if_pos h]
  unfold joinE at h
  split at h
  · rename_i hall
    split at h
    · cases h
    · rename_i hlen
      have hle : (jn l).length ≤ 4096 := by omega
      refine ⟨hj, hle, ?_⟩
      by_cases h0 : l = []
      · subst h0
        exact ⟨rfl, rfl⟩
      · have hm : ∀ x ∈ l, mayL x = true := List.all_eq_true.1 hall
        have hp := pcs_jn l h0 fun x hx => (may_no47 (hm x hx)).1
        have hne : jn l ≠ [] := by
          intro e
          have h1 := pcs_ne [] (jn l)
          rw [hp] at h1
          rw [e] at hp
          simp [pcs] at hp
          have := (may_no47 (hm [] (by rw [← hp]; simp))).2
          exact this rfl
        have hs : splE (jn l) = 0 := by
          unfold splE
          rw [if_neg (by omega), if_neg hne, hp, if_pos hall]
        refine ⟨hs, ?_⟩
        unfold splL
        rw [if_pos ⟨hs, hne⟩, hp]
  · cases h
theorem back2 {S : List UInt8} (h : splE S = 0) : joinE (splL S) = 0 ∧ joinL (splL S) = S := by
  by_cases h0 : S = []
  · subst h0; exact ⟨rfl, rfl⟩
  · have hl : splL S = pcs [] S := by unfold splL; rw [if_pos ⟨h, h0⟩]
    rw [hl]
    unfold splE at h
    split at h
    · cases h
    · rename_i hlen
      split at h
      · rename_i hall
        have hj : joinE (pcs [] S) = 0 := by
          unfold joinE
          rw [if_pos hall, if_neg]
          rw [jn_pcs]; simpa using hlen
        refine ⟨hj, ?_⟩
        unfold joinL
        rw [if_pos hj, jn_pcs]; rfl
      · cases h
theorem back3 {S : List UInt8} (h : splE S ≠ 0) : splL S = [] := by unfold splL; rw [if_neg (fun e => h e.1)]
theorem pcs_len (l cur : List UInt8) : ∀ x ∈ pcs cur l, x.length ≤ cur.length + l.length := by
  induction l generalizing cur with
  | nil => intro x hx; simp [pcs] at hx; subst hx; simp
  | cons c l ih =>
    intro x hx
    rw [pcs] at hx
    split at hx
    · rcases List.mem_cons.1 hx with rfl | hx
      · simp
      · have := ih [] x hx; simp at this ⊢; omega
    · have := ih _ x hx; simp at this ⊢; omega
theorem spl_ok {S : List UInt8} (h : S.length ≤ 6000) : lenOk (splL S) := by
  refine ⟨by have := spl_len S; omega, fun x hx => ?_⟩
  unfold splL at hx
  split at hx
  · have := pcs_len S [] x hx; simp at this; omega
  · cases hx
set_option maxRecDepth 20000 in
set_option maxHeartbeats 8000000 in
theorem back_law (w : World) (s : ByteArray) (hsm : s.size ≤ maxLen) (a : Option Addr) (n cap : Nat) (l : List (List UInt8)) (hs : SliceAt w a n (l.map strV)) (hc : n ≤ cap) (hm : n ≤ maxLen) (hz : ∀ x ∈ l, x.length ≤ maxLen) :
    Calls Try.prog 7 #[.string s, .slice a n cap] w fun e w' => e = .returned (.bool true) ∧ Below w.heap.size w w' := by
  have HLG := Lib.hid (long_any w a n cap l hs hm hz)
  have HSL := Lib.hid hs
  have hln : l.length = n := by have := hs.1; simpa using this
  have HLN := Lib.hid hln
  unfold maxLen at hsm hm
  clear hs hz hln
  by_cases h6 : s.size ≤ 6000
  · have h61 : (s.size : Int) ≤ 6000 := by omega
    have h6d : decide ((6000 : Int) < (s.size : Int)) = false := by simp; omega
    go_enter Try.func7, Try.ntmps7
    go_wp2_with fail
    refine HLG.out.mono ?_
    rintro e w0 ⟨⟨b, rfl, hlp⟩, rfl⟩
    cases b with
    | true =>
      clear hlp
      go_wp2_with fail
      refine (awake_any w).mono ?_
      rintro e w1 ⟨rfl, hb⟩
      have HB := Lib.hid hb
      clear hb
      go_wp2
      go_ret
      exact ⟨rfl, HB.out⟩
    | false =>
      obtain ⟨hl1, hl2⟩ := hlp rfl
      have HK : Hid (lenOk l) := Lib.hid ⟨by omega, fun x hx => by have := hl2 x hx; omega⟩
      have hn200 : n ≤ 200 := by rw [← HLN.out]; exact hl1
      clear hlp hl1 hl2 HLG
      obtain ⟨S, hS⟩ : ∃ S, S = s.data.toList := ⟨_, rfl⟩
      have hSl : S.length ≤ 6000 := by rw [hS, ← Lib.size_eq]; exact h6
      have hsv : Value.string s = strV S := by rw [hS]; rw [ba_ext (s := s) rfl]; rfl
      have HSV := Lib.hid hsv
      have HSE := Lib.hid hS
      clear hsv hS
      go_wp2_with fail
      refine (awake_any w).mono ?_
      rintro e w1 ⟨rfl, hb⟩
      have HB1 := Lib.hid hb
      clear hb
      go_wp2_with fail
      refine (join_any w1 a n cap l (HSL.out.next HB1.out) hc HK.out).mono ?_
      rintro e w2 ⟨rfl, hb⟩
      have HB2 := Lib.hid (bt HB1.out hb)
      clear hb
      have hend : ∀ wz : World, Below w.heap.size w wz → Calls Try.prog 15 #[.string s] wz fun e w' => ∃ a' c', e = .returned (.tuple #[.slice a' (splL S).length c', .int .i64 (splE S)]) ∧ SliceAt w' a' (splL S).length ((splL S).map strV) ∧ (splL S).length ≤ c' ∧ Below w.heap.size w w' := by
        intro wz hbz
        have h := split_own wz S (by omega)
        rw [← HSV.out] at h
        refine h.mono ?_
        rintro e w' ⟨v, rfl, ho, hb'⟩
        obtain ⟨a', c', rfl, hsl', hc'⟩ := owned_cap ho
        exact ⟨a', c', rfl, hsl', hc', hbz.trans (hb'.mono hbz.size)⟩
      have HEND := Lib.hid hend
      have HSO := Lib.hid (spl_ok hSl)
      clear hend
      obtain ⟨je, hje⟩ : ∃ j, j = joinE l := ⟨_, rfl⟩
      rw [← hje]
      by_cases hj0 : je = 0
      · obtain ⟨b1, b2, b3, b4⟩ := back1 (by rw [← hje]; exact hj0)
        rw [b1]
        have hsp := split_any w2 (jn l) (by omega)
        rw [b3, b4] at hsp
        have HSP := Lib.hid hsp
        subst hj0
        clear hje hsp b1 b2 b3 b4
        unfold strV
        unfold strV at HSP
        go_wp2_with fail
        refine HSP.out.mono ?_
        rintro e w3 ⟨v, rfl, ⟨a3, c3, rfl, hs3, _⟩, hb⟩
        have HB3 := Lib.hid (bt HB2.out hb)
        have HS3 := Lib.hid hs3
        rw [HLN.out] at HS3 ⊢
        clear hb hs3 HSP
        go_wp2_with fail
        refine (same_eq w3 a3 a n c3 cap l HS3.out (HSL.out.next HB3.out) (by omega)).mono ?_
        rintro e w4 ⟨rfl, hb⟩
        have HB4 := Lib.hid (bt HB3.out hb)
        clear hb
        go_wp2_with fail
        refine (HEND.out w4 HB4.out).mono ?_
        rintro e w5 ⟨a5, c5, rfl, hs5, hc5, hb5⟩
        have HS5 := Lib.hid hs5
        have HB5 := Lib.hid hb5
        clear hs5 hb5
        obtain ⟨m, hm2⟩ : ∃ m, m = (splL S).length := ⟨_, rfl⟩
        rw [← hm2] at HS5 hc5 ⊢
        by_cases he0 : splE S = 0
        · obtain ⟨j1, j2⟩ := back2 he0
          have hjn := join_any w5 a5 m c5 (splL S) HS5.out hc5 HSO.out
          rw [j1, j2, ← HSV.out] at hjn
          have HJN := Lib.hid hjn
          rw [he0]
          clear hjn j1 j2 he0 hm2
          go_wp2_with fail
          refine HJN.out.mono ?_
          rintro e w6 ⟨rfl, hb⟩
          have HB6 := Lib.hid (HB5.out.trans (hb.mono HB5.out.size))
          clear hb HJN
          go_wp2
          go_ret
          exact ⟨rfl, HB6.out⟩
        · have hm0 : m = 0 := by rw [hm2, back3 he0]; rfl
          obtain ⟨se, hse⟩ : ∃ x, x = splE S := ⟨_, rfl⟩
          rw [← hse] at he0 ⊢
          have hseb : (se == 0) = false := by simpa using he0
          have hsen : (se != 0) = true := by simpa using he0
          subst hm0
          clear he0 hse hm2
          go_wp2
          go_ret
          exact ⟨rfl, HB5.out⟩
      · have hjb : (je == 0) = false := by simpa using hj0
        clear hj0 hje
        go_wp2_with fail
        refine (HEND.out w2 HB2.out).mono ?_
        rintro e w5 ⟨a5, c5, rfl, hs5, hc5, hb5⟩
        have HS5 := Lib.hid hs5
        have HB5 := Lib.hid hb5
        clear hs5 hb5
        obtain ⟨m, hm2⟩ : ∃ m, m = (splL S).length := ⟨_, rfl⟩
        rw [← hm2] at HS5 hc5 ⊢
        by_cases he0 : splE S = 0
        · obtain ⟨j1, j2⟩ := back2 he0
          have hjn := join_any w5 a5 m c5 (splL S) HS5.out hc5 HSO.out
          rw [j1, j2, ← HSV.out] at hjn
          have HJN := Lib.hid hjn
          rw [he0]
          clear hjn j1 j2 he0 hm2
          go_wp2_with fail
          refine HJN.out.mono ?_
          rintro e w6 ⟨rfl, hb⟩
          have HB6 := Lib.hid (HB5.out.trans (hb.mono HB5.out.size))
          clear hb HJN
          go_wp2
          go_ret
          exact ⟨rfl, HB6.out⟩
        · have hm0 : m = 0 := by rw [hm2, back3 he0]; rfl
          obtain ⟨se, hse⟩ : ∃ x, x = splE S := ⟨_, rfl⟩
          rw [← hse] at he0 ⊢
          have hseb : (se == 0) = false := by simpa using he0
          have hsen : (se != 0) = true := by simpa using he0
          subst hm0
          clear he0 hse hm2
          go_wp2
          go_ret
          exact ⟨rfl, HB5.out⟩
  · have h61 : (6000 : Int) < (s.size : Int) := by omega
    go_enter Try.func7, Try.ntmps7
    go_wp2_with fail
    refine (awake_any w).mono ?_
    rintro e w1 ⟨rfl, hb⟩
    have HB := Lib.hid hb
    clear hb
    go_wp2
    go_ret
    exact ⟨rfl, HB.out⟩
theorem back_row (w : World) (s : ByteArray) (hs : s.size ≤ maxLen) (a : Option Addr) (n cap : Nat) (ss : List ByteArray) (hl : n ≤ cap) (hm : cap ≤ maxLen) (hi : SliceAt w a n (ss.map Value.string)) (hw : ∀ s ∈ ss, s.size ≤ maxLen) :
    Calls Try.prog 7 #[.string s, .slice a n cap] w fun e w' => e = .returned (.bool true) ∧ Below w.heap.size w w' :=
  back_law w s hs a n cap (ss.map (·.data.toList)) (by rw [strs_conv]; exact hi) hl (Nat.le_trans hl hm) (fun x hx => by obtain ⟨y, hy, rfl⟩ := List.mem_map.1 hx; rw [← Lib.size_eq]; exact hw y hy)
end Go.Proofs.Ytdjahdipaffajaa
