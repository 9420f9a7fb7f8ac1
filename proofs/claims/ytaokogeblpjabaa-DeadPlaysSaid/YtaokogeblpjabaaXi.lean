/- The document's Drop. -/
import Derived.Test.YtaokogeblpjabaaXh
namespace Go.Proofs.Ytaokogeblpjabaa
open Go.RowKit
def RdI (w W2 : World) (q g : Nat) (f : Int → Nat) (Lst : List Int) (a : Nat) (v l i : Value) (W : World) : Prop := ∃ n : Nat, n ≤ Lst.length ∧ i = .int .i64 n ∧ ∃ gi, RX W q gi (offF f Lst n a) ∧ OwnI w.heap.size Lst v W ∧ OwnI W2.heap.size (gone1 f Lst n a) l W ∧ (∀ k, l.ownBlock = some k → k ≠ gi) ∧ Fr (QG q g) w W ∧ (gi = g ∨ W2.heap.size ≤ gi) ∧ W2.heap.size ≤ W.heap.size
theorem RX.ltg {W : World} {q g : Nat} {f : Int → Nat} (h : RX W q g f) : g < W.heap.size := by
  obtain ⟨L, hx, _⟩ := h
  exact hx.ltg
theorem ownB_lt {B : Nat} {l : List Int} {v : Value} {w : World} (h : OwnI B l v w) : ∀ k, v.ownBlock = some k → k < w.heap.size := by
  intro k hk
  rcases h.2 with ⟨rfl, _⟩ | ⟨g, c, cur, rfl, hg, hb, _⟩
  · cases hk
  · cases hk
    exact (Array.getElem?_eq_some_iff.1 hb).1
theorem own_fr4 {M : Nat → Prop} {B : Nat} {l : List Int} {v : Value} {w w' : World} (h : OwnI B l v w) (hf : Fr M w w') (hm : ∀ k, v.ownBlock = some k → ¬ M k) : OwnI B l v w' := by
  rcases h.2 with ⟨e, h0⟩ | ⟨g, c, cur, e, hg, hb, h1⟩
  · exact ⟨h.1, .inl ⟨e, h0⟩⟩
  · refine ⟨h.1, .inr ⟨g, c, cur, e, hg, ?_, h1⟩⟩
    rw [hf.block g (Array.getElem?_eq_some_iff.1 hb).1 (hm g (by rw [e]; rfl))]
    exact hb
theorem give_val {f : Int → Nat} {a k : Int} (ho : okT a ∧ okB k) (hb : (f k).testBit a.toNat = true) : giveE f a k = 0 ∧ giveR f a k = decide (offM (f k) a.toNat = 0) ∧ giveF f a k = updI f k (offM (f k) a.toNat) :=
  ⟨by unfold giveE; rw [if_pos ho, if_pos hb], by unfold giveR; rw [if_pos ho, if_pos hb], by unfold giveF; rw [if_pos ho, if_pos hb]⟩
set_option maxHeartbeats 4000000 in
theorem rdrop_any (w : World) (q g : Nat) (f : Int → Nat) (h : RX w q g f) (a : Int) :
    Calls Try.prog 34 #[.pointer (some ⟨q, 0, none⟩), .int .i64 a] w fun e w' => ∃ v, e = .returned (.tuple #[v, .int .i64 (dropE a)]) ∧ OwnI w.heap.size (dropL f a) v w' ∧ RGo w q g (dropF f a) w' := by
  have HT := Lib.hid (tree_any w a)
  have HX := Lib.hid h
  clear h
  by_cases h1 : 0 ≤ a ∧ a ≤ 6
  · rw [decide_eq_true h1] at HT
    have e1 : dropE a = 0 := by simp [dropE, okT, h1]
    have e2 : dropF f a = dropF1 f a.toNat := by simp [dropF, okT, h1]
    have e3 : dropL f a = theL fun k => pGone a.toNat (f k) := by simp [dropL, okT, h1]
    rw [e1, e2, e3]
    obtain ⟨A, rfl⟩ : ∃ A : Nat, a = A := ⟨a.toNat, by omega⟩
    rw [Int.toNat_natCast]
    have HA : Hid (A < 7) := Lib.hid (by omega)
    clear e1 e2 e3 h1
    go_enter Try.func34, Try.ntmps34
    go_wp2_with fail
    refine HT.out.mono ?_
    rintro e w' ⟨rfl, hw⟩
    rw [hw]
    clear hw w'
    go_wp2_with fail
    refine (rof_any w q g f HX.out A).mono ?_
    rintro e w2 ⟨v, rfl, ho, hb⟩
    have HX2 := Lib.hid (HX.out.next hb)
    have HB2 := Lib.hid hb
    have HLN : Hid ((ofL f A).length ≤ 8192) := Lib.hid (ofL_len f A)
    have HLS : Hid ((ofL f A).Pairwise (· < ·)) := Lib.hid (ofL_sorted f A)
    have HLM : Hid (∀ k, k ∈ ofL f A ↔ (f k).testBit A = true) := Lib.hid (fun k => ofL_mem HX.out.vm HA.out)
    have HLE : Hid (offF f (ofL f A) (ofL f A).length A = dropF1 f A) := Lib.hid (offF_end HX.out.vm HA.out)
    have HLG : Hid (gone1 f (ofL f A) (ofL f A).length A = theL fun k => pGone A (f k)) := Lib.hid (gone1_end f HA.out)
    have HSZ : Hid (q < w.heap.size ∧ g < w.heap.size ∧ w.heap.size ≤ w2.heap.size) := Lib.hid (by
      have := HX.out.lt
      have := HX.out.ltg
      have := hb.size
      omega)
    have HVM := Lib.hid HX.out.vm
    clear hb HT HX
    generalize ofL f A = Lst at *
    obtain ⟨ad, cap, rfl⟩ := ho.shape
    have HO := Lib.hid ho
    have HAD := Lib.hid (own_lt ho)
    clear ho
    have hl8 : Lst.length ≤ 8192 := HLN.out
    have k00 : offF f Lst 0 A = f := by funext k; simp [offF]
    have HF2 : Hid (Fr (QG q g) w w2) := Lib.hid (Fr.of_below HB2.out)
    have HX2' : Hid (RX w2 q g (offF f Lst 0 A)) := Lib.hid (by rw [k00]; exact HX2.out)
    clear k00 HX2
    generalize hn : Lst.length = n at *
    have HN := Lib.hid hn
    clear hn
    go_wp2_with fail
    go_loopw [6, 8] (fun l i wr => RdI w w2 q g f Lst A (.slice ad n cap) l i wr) (fun _ i _ => n - (intOf i).toNat)
    case atStart => exact ⟨0, by omega, rfl, g, HX2'.out, HO.out, OwnI.nil _ _, (fun k hk => by cases hk), HF2.out, .inl rfl, Nat.le_refl _⟩
    case round =>
      obtain ⟨i, hi, rfl, gi, hx, ho, hgo, hne, hf, hgi, hz⟩ := hrel
      rw [HN.out] at hi
      clear HX2' HO HF2
      have HXi := Lib.hid hx
      have HO := Lib.hid ho
      have HGo := Lib.hid hgo
      have HNE := Lib.hid hne
      have HF2 := Lib.hid hf
      have HGI := Lib.hid hgi
      have HZ := Lib.hid hz
      clear hx ho hgo hne hf hgi hz
      by_cases hlt : i < n
      · have hlt' : (i : Int) < (n : Int) := by omega
        have k0 : (0 : Int) ≤ (i : Int) := by omega
        obtain ⟨x, hx⟩ : ∃ x, Lst[i]? = some x := ⟨Lst[i]'(by rw [HN.out]; exact hlt), List.getElem?_eq_getElem _⟩
        obtain ⟨lg, rfl, hg, hgl, hcell, _⟩ := HO.out.at i x hx
        have HXX := Lib.hid hx
        have HBIT : Hid ((f x).testBit A = true) := Lib.hid ((HLM.out x).1 (List.mem_of_getElem? hx))
        have HK : Hid (2 ≤ x ∧ x < 8192) := Lib.hid (HVM.out.dom x (fun e => by have := HBIT.out; rw [e] at this; simp at this))
        obtain ⟨q1, q2⟩ := offF_next HLS.out hx A (f := f)
        have hokk : okT (A : Int) ∧ okB x := ⟨by have := HA.out; unfold okT; omega, HK.out⟩
        obtain ⟨v1, v2, v3⟩ := give_val (f := offF f Lst i A) hokk (by rw [q1, Int.toNat_natCast]; exact HBIT.out)
        rw [q1, Int.toNat_natCast] at v2 v3
        rw [q2] at v3
        have hc := rgive_any wr q gi _ HXi.out (A : Int) x
        rw [v1, v2, v3] at hc
        have HC := Lib.hid hc
        have HGN := Lib.hid (gone1_next (f := f) hx A)
        have HGL : Hid ((gone1 f Lst i A).length ≤ 8192) := Lib.hid (by have := gone1_len f Lst i A; omega)
        have HLGB : Hid (lg < w2.heap.size ∧ w.heap.size ≤ lg) := Lib.hid ⟨HAD.out _ rfl, hg⟩
        clear hx hg hgl q1 q2 v1 v2 v3 hc hokk
        go_wp2_with fail
        refine HC.out.mono ?_
        rintro e w3 ⟨rfl, gj, hx3, hf3, hgj⟩
        have HX3 := Lib.hid hx3
        have HLGJ : Hid (gj < w3.heap.size) := Lib.hid hx3.ltg
        have HO3 : Hid (OwnI w.heap.size Lst (.slice (some ⟨lg, 0, none⟩) n cap) w3) := Lib.hid (own_fr3 HO.out hf3 (fun p e => by
          cases e
          have h1 := HLGB.out
          have h2 := HSZ.out
          rintro (e | e)
          · simp only at e; omega
          · simp only at e
            rcases HGI.out with h3 | h3
            · omega
            · omega))
        have HGo3 : Hid (OwnI w2.heap.size (gone1 f Lst i A) u6 w3) := Lib.hid (own_fr4 HGo.out hf3 (fun k hk => by
          rintro (e | e)
          · have h1 := ownsRow_block HGo.out k hk
            have h2 := HSZ.out
            omega
          · exact HNE.out k hk e))
        have HNE3 : Hid (∀ k, u6.ownBlock = some k → k ≠ gj) := Lib.hid (fun k hk => by
          rcases hgj with e | e
          · rw [e]; exact HNE.out k hk
          · have := ownB_lt HGo.out k hk; omega)
        have HF3 : Hid (Fr (QG q g) w w3) := Lib.hid (by
          refine ⟨hf3.os.trans HF2.out.os, hf3.tape.trans HF2.out.tape, hf3.output.trans HF2.out.output, Nat.le_trans HF2.out.size hf3.size, fun j hj hn => ?_⟩
          refine (hf3.block j (by have := HF2.out.size; omega) (fun e => ?_)).trans (HF2.out.block j hj hn)
          rcases e with e | e
          · exact hn (.inl e)
          · rcases HGI.out with h3 | h3
            · exact hn (.inr (by omega))
            · have := HSZ.out; omega)
        have HGJ : Hid (gj = g ∨ w2.heap.size ≤ gj) := Lib.hid (by
          rcases hgj with h3 | h3
          · rw [h3]; exact HGI.out
          · right; have := HZ.out; omega)
        have HZ3 : Hid (w2.heap.size ≤ w3.heap.size) := Lib.hid (Nat.le_trans HZ.out hf3.size)
        have c3 : w3.cell? ⟨lg, i, none⟩ = some (.int .i64 x) := by
          obtain ⟨g', e, _, _, hc, _⟩ := HO3.out.at i x HXX.out
          cases e
          exact hc
        clear hx3 hf3 hgj hcell HC
        by_cases hz : offM (f x) A = 0
        · rw [if_pos hz] at HGN
          rw [decide_eq_true hz]
          clear hz
          have hnew : RowAt (w3.alloc (.cells #[.int .i64 x] 3)) w3.heap.size 3 [.int .i64 x] := RowAt.new w3 3 _
          obtain ⟨ii, z, e1, e2, e3, e4, e5⟩ := info3
          obtain ⟨v', w', hrun, ho', hgr, hob, hb'⟩ := run_app (P := Try.prog) (w3.alloc (.cells #[.int .i64 x] 3)) w2.heap.size 26 26 3 ii z 8 Try.underlying26 e1 e2 e3 e4 e5 u6 (gone1 f Lst i A).length _ (HGo3.out.alloc _) (some ⟨w3.heap.size, 0, none⟩) 1 1 [.int .i64 x] (SliceAt.row hnew) (fun h => by cases h) (fun u hu => by simp at hu; subst hu; rfl) (by have := HGL.out; unfold maxLen; omega) (by have := HGL.out; omega) (by have := HZ3.out; simp; omega)
          have hal : Below w3.heap.size w3 (w3.alloc (.cells #[.int .i64 x] 3)) := (Below.refl _ _).alloc (Nat.le_refl _) _
          have hfb : Fr (fun k => u6.ownBlock = some k) w3 w' := (Fr.of_below hal).trans ⟨hgr.os, hgr.tape, hgr.output, hgr.size, fun k hk hn => hgr.block k hk (fun e => hn e.symm)⟩
          have hqn : ¬ u6.ownBlock = some q := fun e => by
            have h1 := ownsRow_block HGo3.out q e
            have h2 := HSZ.out
            omega
          have hgn : ¬ u6.ownBlock = some gj := fun e => HNE3.out gj e rfl
          have HRUN := Lib.hid hrun
          have HGo4 : Hid (OwnI w2.heap.size (gone1 f Lst (i + 1) A) v' w') := Lib.hid (by
            rw [HGN.out]
            unfold OwnI
            rw [List.length_append, List.map_append]
            exact ho')
          have HNE4 : Hid (∀ k, v'.ownBlock = some k → k ≠ gj) := Lib.hid (fun k hk => by
            rcases hob with e | e
            · rw [e] at hk; exact HNE3.out k hk
            · rw [e] at hk
              cases hk
              have := HLGJ.out
              simp
              omega)
          have HX4 : Hid (RX w' q gj (offF f Lst (i + 1) A)) := Lib.hid (HX3.out.fr hfb hqn hgn)
          have HO4 : Hid (OwnI w.heap.size Lst (.slice (some ⟨lg, 0, none⟩) n cap) w') := Lib.hid (own_fr3 HO3.out hfb (fun p e => by
            cases e
            intro e
            have h1 := ownsRow_block HGo3.out _ e
            have h2 := HLGB.out
            simp only at h1
            omega))
          have HF4 : Hid (Fr (QG q g) w w') := Lib.hid (HF3.out.step hfb (fun j hj hm => by
            have h1 := ownsRow_block HGo3.out _ hm
            have h2 := HSZ.out
            omega))
          have HZ4 : Hid (w2.heap.size ≤ w'.heap.size) := Lib.hid (by have := HZ3.out; have := hfb.size; omega)
          clear hnew hrun ho' hb' e1 e2 e3 e4 e5 hal hfb hgr hob hqn hgn
          go_wp2_with (at_builtin; refine wpList_app rfl (.tmp 34) (.tmp 39) 26 26 rfl rfl HRUN.out rfl rfl ?_)
          go_roundw
          case rel => exact ⟨i + 1, by rw [HN.out]; omega, by go_num, gj, HX4.out, HO4.out, HGo4.out, HNE4.out, HF4.out, HGJ.out, HZ4.out⟩
          case measure => simp [intOf]; omega
        · rw [if_neg hz] at HGN
          rw [decide_eq_false hz]
          clear hz
          go_wp2_with fail
          go_roundw
          case rel => exact ⟨i + 1, by rw [HN.out]; omega, by go_num, gj, HX3.out, HO3.out, by rw [HGN.out]; exact HGo3.out, HNE3.out, HF3.out, HGJ.out, HZ3.out⟩
          case measure => simp [intOf]; omega
      · obtain rfl : i = n := by omega
        have HGE : Hid (OwnI w.heap.size (theL fun k => pGone A (f k)) u6 wr) := Lib.hid (by rw [← HLG.out]; exact HGo.out.mono HB2.out.size)
        have HP : Hid (RGo w q g (dropF1 f A) wr) := Lib.hid ⟨gi, by rw [← HLE.out]; exact HXi.out, HF2.out, by
          rcases HGI.out with h3 | h3
          · exact .inl h3
          · right; have := HSZ.out; omega⟩
        go_wp2_with fail
        all_goals refine bodyPost_ret (by simp [results, Try.results34, go_sem]; rfl) rfl ?_
        all_goals exact ⟨_, rfl, HGE.out, HP.out⟩
  · have e1 : dropE a = 1 := by simp [dropE, okT, h1]
    have e2 : dropF f a = f := by simp [dropF, okT, h1]
    have e3 : dropL f a = [] := by simp [dropL, okT, h1]
    rw [e1, e2, e3]
    rw [decide_eq_false h1] at HT
    clear e1 e2 e3 h1
    go_enter Try.func34, Try.ntmps34
    go_wp2_with fail
    refine HT.out.mono ?_
    rintro e w' ⟨rfl, hw⟩
    rw [hw]
    clear hw w'
    go_wp2_with fail
    all_goals refine bodyPost_ret (by simp [results, Try.results34, go_sem]; rfl) rfl ?_
    all_goals exact ⟨_, rfl, OwnI.nil _ _, RGo.same HX.out (Below.refl _ _)⟩
end Go.Proofs.Ytaokogeblpjabaa
