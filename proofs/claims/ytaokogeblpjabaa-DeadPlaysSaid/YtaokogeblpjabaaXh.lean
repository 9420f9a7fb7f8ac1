/- The document's Copy, Like. -/
import Derived.Test.YtaokogeblpjabaaXg
namespace Go.Proofs.Ytaokogeblpjabaa
open Go.RowKit
theorem XT.copyRun {w : World} {q g : Nat} {L : List Pr} (h : XT w q g L) (hL : L.length ≤ 60000) :
    ∃ v v' w', w.cell? ⟨q, 0, none⟩ = some v ∧ (Builtin.append_ #[41, 41] 41 #[.slice (some ⟨w.heap.size, 0, none⟩) 0 0, v]).run Try.prog (w.alloc (.cells #[] 61)) = .ok v' w' ∧
      ∃ g', XT (w'.alloc (.cells #[v'] 43)) w'.heap.size g' L ∧ w.heap.size ≤ g' ∧ Below w.heap.size w w' ∧ ∃ A n c, v' = .slice A n c := by
  obtain ⟨v, hr, ho, hg, hgl⟩ := h
  have hal : Below w.heap.size w (w.alloc (.cells #[] 61)) := (Below.refl _ _).alloc (Nat.le_refl _) _
  have hz : (w.alloc (.cells #[] 61)).heap.size = w.heap.size + 1 := by simp
  have hnew : (w.alloc (.cells #[] 61)).ownsRow 0 61 2 (.slice (some ⟨w.heap.size, 0, none⟩) ([] : List Pr).length 0) ([] : List Pr).length (flat []) :=
    ⟨rfl, .inr ⟨w.heap.size, 0, #[], rfl, by omega, by show (w.heap.push _)[w.heap.size]? = _; simp, by simp, by simp [maxLen], rfl, rfl⟩⟩
  rcases ho.2 with ⟨rfl, h0⟩ | ⟨g', cap, cur, rfl, hb, hh, h1, h2, h3, h4⟩
  · obtain rfl : L = [] := List.eq_nil_of_length_eq_zero h0
    obtain ⟨i, z, e1, e2, e3, e4, e5⟩ := info61
    have r1 := run_app_nil (P := Try.prog) (w.alloc (.cells #[] 61)) 0 41 41 61 i 2 Try.underlying41 e1 _ _ _ hnew 0
    refine ⟨_, _, _, hr.cell 0, r1, w.heap.size, ⟨_, RowAt.new _ 43 [_], hnew.alloc _, (fun k hk => by cases hk; rfl), ?_⟩, Nat.le_refl _, hal, ⟨_, _, _, rfl⟩⟩
    simp
    omega
  · obtain rfl : g' = g := hg g' rfl
    have hgl' : g' < w.heap.size := (Array.getElem?_eq_some_iff.1 hh).1
    obtain ⟨A1, c1, w2, r1, o1, f1, k1⟩ := run_app2 (w.alloc (.cells #[] 61)) (.slice (some ⟨w.heap.size, 0, none⟩) 0 0) [] hnew ⟨g', 0, none⟩ cap L (fun j u hu => by
      have e1 : (⟨g', 0, none⟩ : Addr).add j = ⟨g', j, none⟩ := by rw [Addr.add_mid, Nat.zero_add]
      have hk : j < (flat L).length := (List.getElem?_eq_some_iff.1 hu).1
      have e : (w.alloc (.cells #[] 61)).cell? ⟨g', j, none⟩ = w.cell? ⟨g', j, none⟩ := hal.cell (p := ⟨g', j, none⟩) hgl'
      rw [e1, e, ho.cellAt j (by rw [flat_len] at hk; omega), hu]) (by simp; omega)
    simp only [List.length_nil, Nat.zero_add, List.nil_append] at r1 o1 k1
    have hfw2 : Fr (fun k => w.heap.size ≤ k) w w2 := (Fr.of_below hal).trans (f1.mono (fun k _ e => by cases e; exact Nat.le_refl _))
    have hb2 : Below w.heap.size w w2 := Fr.below hfw2 (Nat.le_refl _) (fun k e => e)
    have hs2 : w.heap.size + 1 ≤ w2.heap.size := by have := f1.size; omega
    obtain ⟨g2, hg2, hgn, hgs⟩ : ∃ g2, (∀ k, (Value.slice A1 L.length c1).ownBlock = some k → k = g2) ∧ w.heap.size ≤ g2 ∧ g2 < w2.heap.size := by
      cases e : (Value.slice A1 L.length c1).ownBlock with
      | none => exact ⟨w.heap.size, (fun k hk => by cases hk), Nat.le_refl _, by omega⟩
      | some k => exact ⟨k, (fun k' hk => by cases hk; rfl), by
          rcases k1 with e' | e'
          · rw [e'] at e; cases e; exact Nat.le_refl _
          · rw [e'] at e; cases e; rw [hz]; omega, by
          rcases o1.2 with ⟨e', h0⟩ | ⟨gg, cap', cur', e', hb', hh', _⟩
          · rw [e'] at e; cases e
          · rw [e'] at e
            cases e
            exact (Array.getElem?_eq_some_iff.1 hh').1⟩
    exact ⟨_, _, w2, hr.cell 0, r1, g2, ⟨_, RowAt.new _ 43 [_], o1.alloc _, hg2, by simp; omega⟩, hgn, hb2, ⟨_, _, _, rfl⟩⟩
set_option maxHeartbeats 1000000 in
theorem rcopy_any (w : World) (q g : Nat) (f : Int → Nat) (h : RX w q g f) :
    Calls Try.prog 17 #[.pointer (some ⟨q, 0, none⟩)] w fun e w' => ∃ q' g', e = .returned (.pointer (some ⟨q', 0, none⟩)) ∧ RX w' q' g' f ∧ w.heap.size ≤ q' ∧ w.heap.size ≤ g' ∧ Below w.heap.size w w' := by
  obtain ⟨L, hx, hr⟩ := h
  have hql := hx.lt
  obtain ⟨v, v', w', c0, hrun, g', hx', hg', hb, A, n, c, rfl⟩ := hx.copyRun hr.len
  have HRUN := Lib.hid hrun
  have HP : Hid (RX (w'.alloc (.cells #[.slice A n c] 43)) w'.heap.size g' f ∧ w.heap.size ≤ g' ∧ Below w.heap.size w (w'.alloc (.cells #[.slice A n c] 43)) ∧ w.heap.size ≤ w'.heap.size) := Lib.hid ⟨⟨L, hx', hr⟩, hg', hb.alloc hb.size _, hb.size⟩
  have k1 : (w.alloc (.cells #[] 61)).cell? ⟨q, 0, none⟩ = some v := (((Below.refl w.heap.size w).alloc (Nat.le_refl _) (.cells #[] 61)).cell hql).trans c0
  clear hx hrun hx' hg' hb
  go_enter Try.func17, Try.ntmps17
  go_wp2_with (at_builtin; refine wpList_app rfl (.tmp 3) (.tmp 7) 41 41 rfl rfl HRUN.out rfl rfl ?_)
  all_goals refine bodyPost_ret (by simp [results, Try.results17, go_sem]; rfl) rfl ?_
  all_goals exact ⟨_, g', rfl, HP.out.1, HP.out.2.2.2, HP.out.2.1, HP.out.2.2.1⟩
def RlI (w W1 W2 : World) (q g : Nat) (f : Int → Nat) (Lst : List Int) (c : Nat) (v i : Value) (W : World) : Prop := ∃ n : Nat, n ≤ Lst.length ∧ i = .int .i64 n ∧ ∃ gi L, XT W q gi L ∧ Rel (onF f Lst n c) L ∧ OwnI W1.heap.size Lst v W ∧ Fr (QG q g) w W ∧ (gi = g ∨ W2.heap.size ≤ gi) ∧ W2.heap.size ≤ W.heap.size
attribute [local go_sem ↓] Go.wp_at_zero Go.wp_at_succ
set_option maxHeartbeats 4000000 in
theorem rlike_any (w : World) (q g : Nat) (f : Int → Nat) (h : RX w q g f) (a c : Int) :
    Calls Try.prog 33 #[.pointer (some ⟨q, 0, none⟩), .int .i64 a, .int .i64 c] w fun e w' => e = .returned (.int .i64 (likeE f a c)) ∧ RGo w q g (likeF f a c) w' := by
  have HT := Lib.hid (tree_any w a)
  have HC := Lib.hid (tree_any w c)
  have HX := Lib.hid h
  clear h
  by_cases h1 : 0 ≤ a ∧ a ≤ 6
  · rw [decide_eq_true h1] at HT
    by_cases h2 : 0 ≤ c ∧ c ≤ 6
    · rw [decide_eq_true h2] at HC
      by_cases h3 : a = c
      · have e1 : likeE f a c = 1 := by simp [likeE, okL, h3]
        have e2 : likeF f a c = f := by simp [likeF, okL, h3]
        have g3 : (a == c) = true := by simpa using h3
        rw [e1, e2]
        clear e1 e2 h1 h2 h3
        go_enter Try.func33, Try.ntmps33
        go_wp2_with fail
        refine HT.out.mono ?_
        rintro e w' ⟨rfl, hw⟩
        rw [hw]
        clear hw w'
        go_wp2_with fail
        refine HC.out.mono ?_
        rintro e w' ⟨rfl, hw⟩
        rw [hw]
        clear hw w'
        go_wp2_with fail
        all_goals refine bodyPost_ret (by simp [results, Try.results33, go_sem]; rfl) rfl ?_
        all_goals exact ⟨rfl, RGo.same HX.out (Below.refl _ _)⟩
      · have g3 : (a == c) = false := by simpa using h3
        have hok : okL a c := ⟨h1, h2, h3⟩
        have hO := rof_any w q g f HX.out c
        by_cases h4 : ofL f c = []
        · have e1 : likeE f a c = 0 := by simp [likeE, hok, h4]
          have e2 : likeF f a c = likeF1 f a.toNat c.toNat := by simp [likeF, hok, h4]
          rw [e1, e2]
          rw [h4] at hO
          have HO := Lib.hid hO
          obtain ⟨A, rfl⟩ : ∃ A : Nat, a = A := ⟨a.toNat, by omega⟩
          obtain ⟨C, rfl⟩ : ∃ C : Nat, c = C := ⟨c.toNat, by omega⟩
          rw [Int.toNat_natCast, Int.toNat_natCast]
          have HA : Hid (A < 7) := Lib.hid (by omega)
          have HCc : Hid (C < 7) := Lib.hid (by omega)
          have HNB : Hid (∀ x, (f x).testBit C = false) := Lib.hid (fun x => by
            cases hb : (f x).testBit C with
            | false => rfl
            | true =>
              have := (ofL_mem HX.out.vm HCc.out).2 hb
              rw [h4] at this
              cases this)
          clear e1 e2 h1 h2 h3 h4 hok hO
          go_enter Try.func33, Try.ntmps33
          go_wp2_with fail
          refine HT.out.mono ?_
          rintro e w' ⟨rfl, hw⟩
          rw [hw]
          clear hw w'
          go_wp2_with fail
          refine HC.out.mono ?_
          rintro e w' ⟨rfl, hw⟩
          rw [hw]
          clear hw w'
          go_wp2_with fail
          refine HO.out.mono ?_
          rintro e w1 ⟨v, rfl, ho, hb⟩
          obtain ⟨a0, cap0, rfl⟩ := ho.shape
          have HX1 := Lib.hid (HX.out.next hb)
          have HB1 := Lib.hid hb
          clear ho hb HO HT HC
          go_wp2_with fail
          refine (rof_any w1 q g f HX1.out A).mono ?_
          rintro e w2 ⟨v, rfl, ho, hb⟩
          have HX2 := Lib.hid (HX1.out.next hb)
          have HB2 := Lib.hid (bt HB1.out hb)
          have HLN : Hid ((ofL f A).length ≤ 8192) := Lib.hid (ofL_len f A)
          have HLS : Hid ((ofL f A).Pairwise (· < ·)) := Lib.hid (ofL_sorted f A)
          have HLM : Hid (∀ k, k ∈ ofL f A ↔ (f k).testBit A = true) := Lib.hid (fun k => ofL_mem HX.out.vm HA.out)
          have HLE : Hid (onF f (ofL f A) (ofL f A).length C = likeF1 f A C) := Lib.hid (onF_end HX.out.vm HA.out)
          have HSZ : Hid (q < w.heap.size ∧ g < w.heap.size ∧ w.heap.size ≤ w1.heap.size ∧ w1.heap.size ≤ w2.heap.size) := Lib.hid (by
            have := HX.out.lt
            obtain ⟨L, hx, _⟩ := HX.out
            have := hx.ltg
            have := HB1.out.size
            have := hb.size
            omega)
          have HVM := Lib.hid HX.out.vm
          clear hb HX1 HB1 HX
          generalize ofL f A = Lst at *
          obtain ⟨ad, cap, rfl⟩ := ho.shape
          have HO := Lib.hid ho
          have HAD := Lib.hid (own_lt ho)
          clear ho
          have hl8 : Lst.length ≤ 8192 := HLN.out
          have k00 : onF f Lst 0 C = f := by funext k; simp [onF]
          have HF2 : Hid (Fr (QG q g) w w2) := Lib.hid (Fr.of_below HB2.out)
          have HX2' : Hid (RX w2 q g (onF f Lst 0 C)) := Lib.hid (by rw [k00]; exact HX2.out)
          clear k00 HX2
          generalize hn : Lst.length = n at *
          have HN := Lib.hid hn
          clear hn
          go_wp2_with fail
          go_loopw [8] (fun i wr => RlI w w1 w2 q g f Lst C (.slice ad n cap) i wr) (fun i _ => n - (intOf i).toNat)
          case atStart =>
            obtain ⟨L, hx, hr⟩ := HX2'.out
            exact ⟨0, by omega, rfl, g, L, hx, hr, HO.out, HF2.out, .inl rfl, Nat.le_refl _⟩
          case round =>
            obtain ⟨i, hi, rfl, gi, L, hx, hr, ho, hf, hgi, hz⟩ := hrel
            rw [HN.out] at hi
            clear HX2' HO HF2
            have HXi := Lib.hid hx
            have HRi := Lib.hid hr
            have HO := Lib.hid ho
            have HF2 := Lib.hid hf
            have HGI := Lib.hid hgi
            have HZ := Lib.hid hz
            clear hx hr ho hf hgi hz
            by_cases hlt : i < n
            · have hlt' : (i : Int) < (n : Int) := by omega
              have k0 : (0 : Int) ≤ (i : Int) := by omega
              obtain ⟨x, hx⟩ : ∃ x, Lst[i]? = some x := ⟨Lst[i]'(by rw [HN.out]; exact hlt), List.getElem?_eq_getElem _⟩
              obtain ⟨lg, rfl, hg, hgl, hcell, _⟩ := HO.out.at i x hx
              have HXX := Lib.hid hx
              have HBIT : Hid ((f x).testBit A = true) := Lib.hid ((HLM.out x).1 (List.mem_of_getElem? hx))
              have HK : Hid (2 ≤ x ∧ x < 8192) := Lib.hid (HVM.out.dom x (fun e => by have := HBIT.out; rw [e] at this; simp at this))
              obtain ⟨q1, q2⟩ := onF_next HLS.out hx C (f := f)
              obtain ⟨n1, n2⟩ := HRi.out.need (C : Int) x
              have hnb : (onF f Lst i C x).testBit (C : Int).toNat = false := by rw [q1, Int.toNat_natCast]; exact HNB.out x
              have hokk : okT (C : Int) ∧ okB x := ⟨by have := HCc.out; unfold okT; omega, HK.out⟩
              have hF : needF (onF f Lst i C) C x = onF f Lst (i + 1) C := by
                unfold needF
                rw [if_pos hokk, if_neg (by rw [hnb]; simp), q1, Int.toNat_natCast]
                exact q2
              have hPL : pneedL L (C : Int) x = L ++ [((C : Int), x)] := by
                unfold pneedL
                rw [if_pos ⟨hokk.1, hokk.2, fun h => by
                  have := (HRi.out.in_tree hokk.1).1 h
                  rw [hnb] at this
                  cases this⟩]
              rw [hF, hPL] at n2
              have HN2 := Lib.hid n2
              obtain ⟨v, A', c', w3, g', c0', hrun, hfz, hc, hx2, hf2, hgn⟩ := (HXi.out.next ((Below.refl _ _).drew)).push HRi.out.len (C : Int) x
              have c0 : wr.cell? ⟨q, 0, none⟩ = some v := c0'
              have hql : q < wr.heap.size := HXi.out.lt
              have k1 : (wr.alloc (.cells #[.int .i64 C, .int .i64 x] 61)).cell? ⟨q, 0, none⟩ = some v := (((Below.refl wr.heap.size wr).alloc (Nat.le_refl _) (.cells #[.int .i64 C, .int .i64 x] 61)).cell hql).trans c0
              have HRUN : Hid ((Builtin.append_ #[41, 41] 41 #[v, .slice (some ⟨wr.heap.size, 0, none⟩) 1 1]).run Try.prog (wr.alloc (.cells #[.int .i64 C, .int .i64 x] 61)).drew = .ok (.slice A' (L.length + 1) c') w3) := Lib.hid hrun
              have HX3 := Lib.hid hx2
              have HF3 : Hid (Fr (QG q gi) wr (w3.setCell ⟨q, 0, none⟩ (.slice A' (L.length + 1) c'))) := Lib.hid (((Fr.refl (QG q gi) wr).drew).trans hf2)
              have HG3 : Hid (g' = gi ∨ wr.heap.size ≤ g') := Lib.hid hgn
              have HLG : Hid (lg < w2.heap.size ∧ w1.heap.size ≤ lg) := Lib.hid ⟨HAD.out _ rfl, hg⟩
              have HO3 : Hid (OwnI w1.heap.size Lst (.slice (some ⟨lg, 0, none⟩) n cap) (w3.setCell ⟨q, 0, none⟩ (.slice A' (L.length + 1) c'))) := Lib.hid (own_fr3 HO.out HF3.out (fun p e => by
                cases e
                have h1 := HLG.out
                have h2 := HSZ.out
                rintro (e | e)
                · simp only at e; omega
                · simp only at e
                  rcases HGI.out with h3 | h3
                  · omega
                  · omega))
              have HF4 : Hid (Fr (QG q g) w (w3.setCell ⟨q, 0, none⟩ (.slice A' (L.length + 1) c'))) := Lib.hid (by
                refine ⟨HF3.out.os.trans HF2.out.os, HF3.out.tape.trans HF2.out.tape, HF3.out.output.trans HF2.out.output, Nat.le_trans HF2.out.size HF3.out.size, fun j hj hn => ?_⟩
                refine (HF3.out.block j (by have := HF2.out.size; omega) (fun e => ?_)).trans (HF2.out.block j hj hn)
                rcases e with e | e
                · exact hn (.inl e)
                · rcases HGI.out with h3 | h3
                  · exact hn (.inr (by omega))
                  · have := HSZ.out; omega)
              have HG4 : Hid (g' = g ∨ w2.heap.size ≤ g') := Lib.hid (by
                rcases HG3.out with h3 | h3
                · rw [h3]; exact HGI.out
                · right; have := HZ.out; omega)
              have HZ4 : Hid (w2.heap.size ≤ (w3.setCell ⟨q, 0, none⟩ (.slice A' (L.length + 1) c')).heap.size) := Lib.hid (Nat.le_trans HZ.out HF3.out.size)
              clear hx hg hgl q1 q2 n1 n2 hnb hokk hF hPL c0' hrun hx2 hf2 hgn
              generalize L.length + 1 = nn at *
              go_wp2_with fail
              go_region_law (refine step_app rfl (.tmp 40) (.tmp 47) 41 41 rfl rfl HRUN.out (by rfl) (by rfl) ?_)
              all_goals go_wp2_with fail
              all_goals go_roundw
              all_goals first
                | (show _ < _; simp [intOf]; omega)
                | exact ⟨i + 1, by rw [HN.out]; omega, by go_num, g', _, HX3.out, HN2.out, HO3.out, HF4.out, HG4.out, HZ4.out⟩
            · obtain rfl : i = n := by omega
              have HP : Hid (RGo w q g (likeF1 f A C) wr) := Lib.hid ⟨gi, ⟨L, HXi.out, by rw [← HLE.out]; exact HRi.out⟩, HF2.out, by
                rcases HGI.out with h3 | h3
                · exact .inl h3
                · right; have := HSZ.out; omega⟩
              go_wp2_with fail
              all_goals refine bodyPost_ret (by simp [results, Try.results33, go_sem]; rfl) rfl ?_
              all_goals exact ⟨rfl, HP.out⟩
        · have e1 : likeE f a c = 50 := by simp [likeE, hok, h4]
          have e2 : likeF f a c = f := by simp [likeF, h4]
          rw [e1, e2]
          have hpos : (0 : Int) < ((ofL f c).length : Int) := by have := List.length_pos_iff.2 h4; omega
          have HO := Lib.hid hO
          clear e1 e2 h1 h2 h3 h4 hok hO
          generalize ofL f c = Lst at *
          go_enter Try.func33, Try.ntmps33
          go_wp2_with fail
          refine HT.out.mono ?_
          rintro e w' ⟨rfl, hw⟩
          rw [hw]
          clear hw w'
          go_wp2_with fail
          refine HC.out.mono ?_
          rintro e w' ⟨rfl, hw⟩
          rw [hw]
          clear hw w'
          go_wp2_with fail
          refine HO.out.mono ?_
          rintro e w1 ⟨v, rfl, ho, hb⟩
          obtain ⟨a0, cap0, rfl⟩ := ho.shape
          have HB1 := Lib.hid hb
          clear ho hb HO
          go_wp2_with fail
          all_goals refine bodyPost_ret (by simp [results, Try.results33, go_sem]; rfl) rfl ?_
          all_goals exact ⟨rfl, RGo.same HX.out HB1.out⟩
    · have e1 : likeE f a c = 1 := by simp [likeE, okL, okT, h2]
      have e2 : likeF f a c = f := by simp [likeF, okL, okT, h2]
      rw [e1, e2]
      rw [decide_eq_false h2] at HC
      clear e1 e2 h1 h2
      go_enter Try.func33, Try.ntmps33
      go_wp2_with fail
      refine HT.out.mono ?_
      rintro e w' ⟨rfl, hw⟩
      rw [hw]
      clear hw w'
      go_wp2_with fail
      refine HC.out.mono ?_
      rintro e w' ⟨rfl, hw⟩
      rw [hw]
      clear hw w'
      go_wp2_with fail
      all_goals refine bodyPost_ret (by simp [results, Try.results33, go_sem]; rfl) rfl ?_
      all_goals exact ⟨rfl, RGo.same HX.out (Below.refl _ _)⟩
  · have e1 : likeE f a c = 1 := by simp [likeE, okL, okT, h1]
    have e2 : likeF f a c = f := by simp [likeF, okL, okT, h1]
    rw [e1, e2]
    rw [decide_eq_false h1] at HT
    clear e1 e2 h1
    go_enter Try.func33, Try.ntmps33
    go_wp2_with fail
    refine HT.out.mono ?_
    rintro e w' ⟨rfl, hw⟩
    rw [hw]
    clear hw w'
    go_wp2_with fail
    all_goals refine bodyPost_ret (by simp [results, Try.results33, go_sem]; rfl) rfl ?_
    all_goals exact ⟨rfl, RGo.same HX.out (Below.refl _ _)⟩
end Go.Proofs.Ytaokogeblpjabaa
