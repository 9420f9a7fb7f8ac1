/- Cut: the walk. -/
import Derived.Test.YtkcebbidmlnmmaaDoorWh
namespace Go.Proofs.YtkcebbidmlnmmaaDoor
open Go.RowKit
/-- What Cut has done so far: the row that is left, and the count. -/
structure CutAt (w : World) (p b : Nat) (n : Int) (P : List Pt) (T : Nat) (j : Nat) (v i : Value) (wr : World) : Prop where
  le : j ≤ P.length
  ei : i = .int .i64 j
  own : wr.ownsRow 0 58 2 v (cutP n (P.take j)).length (flatP (cutP n (P.take j)))
  blk : ∀ k, v.ownBlock = some k → w.heap.size ≤ k
  row : RowAt wr p 61 [.map (some b), .int .i64 ((T + totP (cutP n (P.take j)) - totP (P.take j) : Nat) : Int)]
  fr : Fr (fun i => i = p ∨ w.heap.size ≤ i) w wr
theorem own_fr {M : Nat → Prop} {v : Value} {m s : Nat} {e : TypeId} {xs : List Value} {w w' : World} (h : w.ownsRow 0 e s v m xs) (hf : Fr M w w') (hm : ∀ k, v.ownBlock = some k → ¬ M k) : w'.ownsRow 0 e s v m xs := by
  rcases h.2 with ⟨e, h0⟩ | ⟨g', cap, cur, e, hb, hh, h1⟩
  · exact ⟨h.1, .inl ⟨e, h0⟩⟩
  · refine ⟨h.1, .inr ⟨g', cap, cur, e, hb, ?_, h1⟩⟩
    rw [hf.block g' (Array.getElem?_eq_some_iff.1 hh).1 (hm g' (by rw [e]; rfl))]
    exact hh
theorem own_ne_row {v : Value} {m s : Nat} {e : TypeId} {xs : List Value} {w : World} (h : w.ownsRow 0 e s v m xs) {q : Nat} {t : TypeId} {l : List Value} (hr : RowAt w q t l) (ht : t ≠ e) : ∀ k, v.ownBlock = some k → k ≠ q := by
  intro k hk ek
  subst ek
  rcases h.2 with ⟨rfl, _⟩ | ⟨g', cap, cur, rfl, hb, hh, h1⟩
  · cases hk
  · cases hk
    unfold RowAt at hr
    rw [hr] at hh
    simp at hh
    exact ht hh.2
theorem own_lt {v : Value} {m s : Nat} {e : TypeId} {xs : List Value} {w : World} (h : w.ownsRow 0 e s v m xs) : ∀ k, v.ownBlock = some k → k < w.heap.size := by
  intro k hk
  rcases h.2 with ⟨rfl, _⟩ | ⟨g', cap, cur, rfl, hb, hh, h1⟩
  · cases hk
  · cases hk
    exact (Array.getElem?_eq_some_iff.1 hh).1
/-- A write of the row that is left, appended: as run. -/
theorem left_push {w1 : World} {v : Value} {Q : List Pt} (h : w1.ownsRow 0 58 2 v Q.length (flatP Q)) (q : Pt) (hl : Q.length ≤ 100000) :
    ∃ A c A' c' w2, v = .slice A Q.length c ∧ (Builtin.append_ #[49, 49] 49 #[.slice A Q.length c, .slice (some ⟨w1.heap.size, 0, none⟩) 1 1]).run Tryd.prog (w1.alloc (.cells #[.int .i64 (q.1 : Int), .string q.2] 58)) = .ok (.slice A' (Q.length + 1) c') w2 ∧
      w2.ownsRow 0 58 2 (.slice A' (Q.length + 1) c') (Q ++ [q]).length (flatP (Q ++ [q])) ∧ (∀ k, (Value.slice A' (Q.length + 1) c').ownBlock = some k → v.ownBlock = some k ∨ w1.heap.size ≤ k) ∧ Fr (fun k => v.ownBlock = some k) w1 w2 := by
  obtain ⟨A, c, rfl⟩ := ownP_shape h
  have hro := RowAt.new w1 58 [.int .i64 (q.1 : Int), .string q.2]
  have hal : Below w1.heap.size w1 (w1.alloc (.cells #[.int .i64 (q.1 : Int), .string q.2] 58)) := (Below.refl _ _).alloc (Nat.le_refl _) _
  have hz : (w1.alloc (.cells #[.int .i64 (q.1 : Int), .string q.2] 58)).heap.size = w1.heap.size + 1 := by simp
  obtain ⟨A', c', w2, r1, o1, f1, k1⟩ := run_appP (w1.alloc (.cells #[.int .i64 (q.1 : Int), .string q.2] 58)) _ Q (own_fr (M := fun _ => False) h (Fr.of_below hal) (fun _ _ x => x)) ⟨w1.heap.size, 0, none⟩ 1 [q] (fun j u hu => by
    have e1 : (⟨w1.heap.size, 0, none⟩ : Addr).add j = ⟨w1.heap.size, j, none⟩ := by rw [Addr.add_mid, Nat.zero_add]
    rw [e1, hro.cell j]
    exact hu) (by simp; omega)
  refine ⟨A, c, A', c', w2, rfl, r1, o1, fun k hk => ?_, (Fr.of_below hal).trans f1⟩
  simp only [List.length_singleton] at k1
  rcases k1 with e | e
  · exact .inl (by rw [← e]; exact hk)
  · rw [e, hz] at hk; cases hk; exact .inr (by omega)
/-- The rows are updated: at k stands P in block g, a new one; M is none of the others'. -/
theorem Mr.putG {b : Nat} {R : Int → List Pt} {G : Int → Nat} {S M : Nat → Prop} {w w2 : World} (h : Mr w b R G S) (k : Int) {v : Value} {P : List Pt} {g : Nat} (hP : P ≠ []) (hv : Rw w2 v P g) (hf : Fr M w w2) (hb : ¬ M b) (hm : ∀ j, j ≠ k → R j ≠ [] → ¬ M (G j)) (hg : w.heap.size ≤ g) :
    ∃ w', (Instr.mapUpdate 59 (.map (some b)) (.int .i64 k) v).run Tryd.prog w2 = .ok () w' ∧ Mr w' b (fun j => if j = k then P else R j) (fun j => if j = k then g else G j) (fun i => S i ∨ w.heap.size ≤ i) ∧ Fr (· = b) w2 w' := by
  obtain ⟨F, hF, hk⟩ := h.map
  have hF2 := hF.fr hf hb
  obtain ⟨w', r1, r2, r3, _⟩ := run_upd hF2 Tryd.underlying59 Tryd.underlying3 k v
  have hgb : g ≠ b := hv.ne_map hF2
  refine ⟨w', r1, ⟨⟨_, r2, fun j => ?_⟩, ?_, .inl h.sb, ?_⟩, r3⟩
  · by_cases e : j = k
    · simp only [if_pos e]
      exact .inr ⟨v, hP, rfl, hv.fr r3 hgb⟩
    · simp only [if_neg e]
      rcases hk j with e' | ⟨u, h1, h2, h3⟩
      · exact .inl e'
      · exact .inr ⟨u, h1, h2, (h3.fr hf (hm j e h1)).fr r3 (h3.ne_map hF)⟩
  · intro i j hi hj e
    by_cases e1 : i = k
    · by_cases e2 : j = k
      · rw [e1, e2]
      · simp only [if_pos e1, if_neg e2] at hj e
        have := h.glt hj
        omega
    · by_cases e2 : j = k
      · simp only [if_neg e1, if_pos e2] at hi e
        have := h.glt hi
        omega
      · simp only [if_neg e1, if_neg e2] at hi hj e
        exact h.inj i j hi hj e
  · intro j hj
    by_cases e : j = k
    · simp only [if_pos e]
      exact .inr hg
    · simp only [if_neg e] at hj ⊢
      exact .inl (h.sg j hj)
theorem str_full {t : ByteArray} (h : t.size ≠ 0) : t.toList.isEmpty = false := by
  rw [Lib.toList_data]
  cases e : t.data.toList with
  | nil => exact absurd (show t.size = 0 by rw [ByteArray.size, ← Array.length_toList, e]; rfl) h
  | cons _ _ => rfl
set_option maxHeartbeats 4000000 in
set_option maxRecDepth 20000 in
theorem cut_some (w : World) (p b : Nat) (L : List Wr) (G : Int → Nat) (S : Nat → Prop) (h : Bm w p b L G S) (k n : Int) (hn0 : 0 ≤ n) (hn1 : n ≤ 9223372036854775807) (h0 : sub k L ≠ []) :
    Calls Tryd.prog 21 #[.pointer (some ⟨p, 0, none⟩), .int .i64 k, .int .i64 n] w fun e w' => e = .returned (.int .i64 0) ∧ ∃ G', Bm w' p b (cutL k n L) G' (fun i => S i ∨ w.heap.size ≤ i) ∧ Fr S w w' := by
  have c0 := h.c0
  have hpl := h.row.lt
  obtain ⟨v, hlk, hv⟩ := h.mr.look k
  have hl := (hlk w (Below.refl _ _)).2
  rw [show (!(sub k L).isEmpty) = true by cases e : sub k L with | nil => exact absurd e h0 | cons _ _ => rfl] at hl
  have HL := Lib.hid hl
  have hlen := h.ok.sublen k
  have HM := Lib.hid h
  have htop := h.ok.top
  have hsplit := tot_split k L
  have hcut := tot_cut k n L
  have hrow := h.row
  have hgp := (h.mr.ne_row h.row (by decide)).2 k h0
  obtain ⟨A, c, rfl, hat⟩ := hv.shape
  have HAT := Lib.hid hat
  have HOK := Lib.hid (h.ok.sub (k := k))
  have gn : decide (n < 0) = false := by simpa using hn0
  obtain ⟨T, hT⟩ : ∃ T, tot L = T := ⟨_, rfl⟩
  have HTT := Lib.hid hT
  rw [hT] at hrow hcut htop hsplit
  have HROW := Lib.hid hrow
  have HCUT := Lib.hid hcut
  clear hlk hv h hl hat hrow hcut hT
  obtain ⟨P, hP⟩ : ∃ P, sub k L = P := ⟨_, rfl⟩
  rw [hP] at hlen HAT HOK HCUT hsplit HL
  have HPP := Lib.hid hP
  clear hP h0
  have hTP : totP P ≤ T := by omega
  clear hsplit
  go_enter Tryd.func21, Tryd.ntmps21
  go_wp2_with (at_lookup; refine wpList_look rfl rfl rfl rfl HL.out ?_)
  go_loopw [9, 30] (fun l i wr => ∃ j, CutAt w p b n P T j l i wr) (fun _ i _ => P.length - (intOf i).toNat)
  case atStart =>
    refine ⟨0, Nat.zero_le _, rfl, ⟨rfl, .inl ⟨rfl, rfl⟩⟩, (fun k hk => by cases hk), ?_, Fr.refl _ _⟩
    simpa [totP, cutP] using HROW.out
  case round =>
    obtain ⟨j, hj, rfl, hown, hblk, hr, hf⟩ := hrel
    by_cases hlt : j < P.length
    · obtain ⟨⟨a, t⟩, hp⟩ : ∃ p, P[j]? = some p := ⟨P[j], List.getElem?_eq_getElem _⟩
      obtain ⟨rfl, hgl, hcap, d1, d2⟩ := HAT.out j _ hp
      simp only at d1 d2
      have hgw : wr.heap[G k]? = w.heap[G k]? := hf.block (G k) hgl (by omega)
      have d1' : wr.cell? ⟨G k, j * 2, none⟩ = some (.int .i64 (a : Int)) := by
        rw [← d1]; unfold World.cell?; rw [hgw]
      have d2' : wr.cell? ⟨G k, j * 2 + 1, none⟩ = some (.string t) := by
        rw [← d2]; unfold World.cell?; rw [hgw]
      obtain ⟨ht1, ht2⟩ := HOK.out _ (List.mem_of_getElem? hp)
      simp only at ht1 ht2
      have HT := Lib.hid (show P.take (j + 1) = P.take j ++ [(a, t)] by rw [List.take_add_one, hp]; rfl)
      have htt := totP_take P j _ hp
      have hle := totP_le P (j + 1)
      have hle2 := totP_cut_le n (P.take j)
      simp only at htt
      have HOWN := Lib.hid hown
      have HB := Lib.hid hblk
      have HR := Lib.hid hr
      have HF := Lib.hid hf
      have hwr := hf.size
      clear hp d1 d2 hgw hown hblk hr hf
      go_wp2_with fail
      refine (end_any _ a t ht2).mono ?_
      rintro e w1 ⟨rfl, hb1⟩
      have hal : Below wr.heap.size wr (wr.alloc (.cells #[.int .i64 (a : Int), .string t] 58)) := (Below.refl _ _).alloc (Nat.le_refl _) _
      have hb2 : Below wr.heap.size wr w1 := bt hal hb1
      have HX1 := Lib.hid ((RowAt.new wr 58 [.int .i64 (a : Int), .string t]).next hb1)
      have HP1 := Lib.hid (HR.out.next hb2)
      have HO1 := Lib.hid (own_fr (M := fun _ => False) HOWN.out (Fr.of_below hb2) (fun _ _ x => x))
      have HF1 := Lib.hid (HF.out.trans (Fr.of_below hb2))
      have hxp : wr.heap.size ≠ p := by have := HR.out.lt; omega
      have hxw : w.heap.size ≤ wr.heap.size := hwr
      have HS1 := Lib.hid (show w.heap.size ≤ w1.heap.size by have := hb2.size; omega)
      have HNX : Hid (u9.ownBlock ≠ some wr.heap.size) := Lib.hid (fun e => Nat.lt_irrefl _ (own_lt HOWN.out _ e))
      clear hal hb1 hb2 HOWN HR HF
      generalize wr.heap.size = x at *
      by_cases hen : ((a + t.size : Nat) : Int) ≤ n
      · have ge : decide (((a : Int) + (t.size : Int)) > n) = false := by simp; omega
        have ge' : decide (n < ((a : Int) + (t.size : Int))) = false := by simp; omega
        have hc1 : cut1 n (a, t) = [(a, t)] := by unfold cut1; rw [if_neg (by simp only; omega), if_pos hen]
        have HVAL := Lib.hid (show T + totP (cutP n (P.take (j + 1))) - totP (P.take (j + 1)) = T + totP (cutP n (P.take j)) - totP (P.take j) by
          rw [htt, HT.out, cutP_append, cutP_one, hc1, totP_append, totP_cons]
          show T + (_ + (t.size + 0)) - _ = _
          omega)
        have HXW := HX1
        have HPW := HP1
        have HOW := HO1
        have HFW := HF1
        have HSZ := HS1
        have HC1 := Lib.hid hc1
        clear HX1 HP1 HO1 HF1 HS1 hc1 hen
        -- the text is not empty: it goes onto the row that is left
        have hts := str_full ht1
        obtain ⟨A1, c1', A2, c2, w5, rfl, r2, o2, k2, f2⟩ := left_push HOW.out (a, t) (Nat.le_trans (cutP_len n (P.take j)) (by rw [List.length_take]; omega))
        have HR2 := Lib.hid r2
        have n2 := own_ne_row HOW.out HPW.out (by decide)
        have HEND : Hid (CutAt w p b n P T (j + 1) (.slice A2 ((cutP n (P.take j)).length + 1) c2) (.int .i64 ((j : Int) + 1)) w5) := Lib.hid
          ⟨by omega, by rw [Int.natCast_add]; rfl, by rw [HT.out, cutP_append, cutP_one, HC1.out]; rw [List.length_append] at o2 ⊢; exact o2,
            fun k hk => by
              rcases k2 k hk with e | e
              · exact HB.out k e
              · exact Nat.le_trans HSZ.out e,
            by rw [HVAL.out]; exact HPW.out.fr f2 (fun e => n2 p e rfl), HFW.out.trans (f2.mono (fun k _ e => .inr (HB.out k e)))⟩
        have x0 : w1.cell? ⟨x, 0, none⟩ = some (.int .i64 (a : Int)) := HXW.out.cell 0
        have x1 : w1.cell? ⟨x, 1, none⟩ = some (.string t) := HXW.out.cell 1
        clear r2 o2 k2 f2 n2
        generalize (cutP n (P.take j)).length = m at *
        go_wp2_with (at_builtin; refine wpList_app rfl (.tmp 63) (.tmp 65) 49 49 rfl rfl HR2.out rfl rfl ?_)
        go_roundw
        case rel => exact ⟨j + 1, HEND.out⟩
        case measure => simp [intOf]; omega
      · obtain ⟨d, hd⟩ : ∃ d, n - (a : Int) = d := ⟨_, rfl⟩
        obtain ⟨kp, hkp⟩ : ∃ kp : Nat, (if d < 0 then (0 : Int) else d) = (kp : Int) := ⟨(if d < 0 then (0 : Int) else d).toNat, by split <;> omega⟩
        have hkd : (kp = 0 ∧ n ≤ (a : Int)) ∨ (0 < kp ∧ (kp : Int) = n - a) := by
          by_cases hd0 : d < 0
          · rw [if_pos hd0] at hkp; omega
          · rw [if_neg hd0] at hkp; omega
        have hks : kp < t.size := by omega
        have hc1 : cut1 n (a, t) = if kp = 0 then [] else [(a, t.extract 0 kp)] := by
          unfold cut1
          rcases hkd with ⟨h1, h2⟩ | ⟨h1, h2⟩
          · rw [if_pos (by simp only; omega), if_pos h1]
          · rw [if_neg (by simp only; omega), if_neg (by simp only; omega), if_neg (by omega)]
            have : (n - (a : Int)).toNat = kp := by omega
            simp only
            rw [this]
        have ge : decide (((a : Int) + (t.size : Int)) > n) = true := by simp; omega
        have ge' : decide (n < ((a : Int) + (t.size : Int))) = true := by simp; omega
        have e1 : IntKind.i64.wrap (n - (a : Int)) = d := by rw [hd, IntWalk.i64_in _ (by omega)]
        have e2 : IntKind.i64.wrap ((t.size : Int) - (kp : Int)) = (t.size : Int) - (kp : Int) := IntWalk.i64_in _ (by omega)
        have hval : T + totP (cutP n (P.take (j + 1))) - totP (P.take (j + 1)) = T + totP (cutP n (P.take j)) - totP (P.take j) + kp - t.size := by
          have : totP (cut1 n (a, t)) = kp := by
            rw [hc1]
            split
            · rename_i h; rw [h]; rfl
            · simp only [totP, List.map_cons, List.map_nil, List.sum_cons, List.sum_nil]
              rw [extract_size _ _ (by omega)]
              rfl
          rw [htt, HT.out, cutP_append, cutP_one, totP_append, this]
          omega
        have c1 := HP1.out.cell 1
        have cf := HP1.out.free 1
        have x0 := HX1.out.cell 0
        have x1 := HX1.out.cell 1
        simp only [List.getElem?_cons_succ, List.getElem?_cons_zero] at c1 x0 x1
        have hn1le : t.size ≤ T + totP (cutP n (P.take j)) - totP (P.take j) ∧ T + totP (cutP n (P.take j)) - totP (P.take j) ≤ 65536 := by omega
        obtain ⟨N1, hN1⟩ : ∃ N1, T + totP (cutP n (P.take j)) - totP (P.take j) = N1 := ⟨_, rfl⟩
        rw [hN1] at c1 hval hn1le
        have e3 : IntKind.i64.wrap ((N1 : Int) - ((t.size : Int) - (kp : Int))) = ((N1 + kp - t.size : Nat) : Int) := by rw [IntWalk.i64_in _ (by omega)]; omega
        have k0 : (0 : Int) ≤ (kp : Int) := by omega
        have k1 : (kp : Int) ≤ (t.size : Int) := by omega
        have ne1 := own_ne_row HO1.out HP1.out (by decide)
        obtain ⟨N2, hN2⟩ : ∃ N2, N1 + kp - t.size = N2 := ⟨_, rfl⟩
        rw [hN2] at e3 hval
        have HVAL0 := Lib.hid hval
        have HKD := Lib.hid hkd
        -- the worlds behind the two stores
        have hfp : Fr (· = p) w1 (w1.setCell ⟨p, 1, none⟩ (.int .i64 (N2 : Int))) := (Fr.refl (· = p) w1).setCell (b := p) rfl _
        have hp2 := HP1.out.set 1 (.int .i64 (N2 : Int))
        simp only [List.set_cons_succ, List.set_cons_zero] at hp2
        have hx2 := HX1.out.fr hfp hxp
        have ho2 := own_fr HO1.out hfp ne1
        have hfw2 := HF1.out.trans (hfp.mono (fun i _ e => Or.inl (a := i = p) (b := w.heap.size ≤ i) e))
        have HX2 := Lib.hid hx2.drew
        have HP2 := Lib.hid hp2.drew
        have HO2 := Lib.hid ho2.drew
        have HF2 := Lib.hid hfw2.drew
        have HS2 : Hid (w.heap.size ≤ (w1.setCell ⟨p, 1, none⟩ (.int .i64 (N2 : Int))).drew.heap.size) := Lib.hid (Nat.le_trans HS1.out hfp.size)
        obtain ⟨t', ht'⟩ : ∃ t', t.extract 0 kp = t' := ⟨_, rfl⟩
        rw [ht'] at hc1
        have HES : Hid (t'.size = kp) := Lib.hid (by rw [← ht']; exact extract_size t kp (by omega))
        have HC1 := Lib.hid hc1
        clear hn1le hval hc1 hkd hN1 hN2 hd ne1 hfp hp2 hx2 ho2 hfw2 HX1 HP1 HO1 HF1 HS1 htt hle hle2 hen ht1
        go_wp2_with fail
        go_region_law fail
        all_goals (
          clear c1 cf x0 x1
          generalize (w1.setCell ⟨p, 1, none⟩ (.int .i64 (N2 : Int))).drew = w2 at *
          have hfx : Fr (· = x) w2 (w2.setCell ⟨x, 1, none⟩ (.string t')) := (Fr.refl (· = x) w2).setCell (b := x) rfl _
          have hx3 := HX2.out.set 1 (.string t')
          simp only [List.set_cons_succ, List.set_cons_zero] at hx3
          have HXW := Lib.hid hx3
          have HPW := Lib.hid (HP2.out.fr hfx (fun e => hxp e.symm))
          have HOW := Lib.hid (own_fr HO2.out hfx (fun i hi e => by
            subst e
            exact HNX.out hi))
          have HFW := Lib.hid (HF2.out.trans (hfx.mono (fun i _ e => Or.inr (a := i = p) (b := w.heap.size ≤ i) (by rw [e]; exact hxw))))
          have HSZ := Lib.hid (Nat.le_trans HS2.out hfx.size)
          have y1 : w2.cell? ⟨x, 1, none⟩ = some (.string t) := HX2.out.cell 1
          have yf := HX2.out.free 1
          have z1 : (w2.setCell ⟨x, 1, none⟩ (.string t')).cell? ⟨x, 1, none⟩ = some (.string t') := hx3.cell 1
          have z0 : (w2.setCell ⟨x, 1, none⟩ (.string t')).cell? ⟨x, 0, none⟩ = some (.int .i64 (a : Int)) := hx3.cell 0
          clear hfx hx3 HX2 HP2 HO2 HF2 HS2
          rcases HKD.out with hz0 | hz0
          · have HZ := Lib.hid hz0
            clear hz0
            have hes : t'.toList.isEmpty = true := by rw [str_nil t' (by rw [HES.out, HZ.out.1]), Lib.toList_data]; rfl
            have HEND : Hid (CutAt w p b n P T (j + 1) u9 (.int .i64 ((j : Int) + 1)) (w2.setCell ⟨x, 1, none⟩ (.string t'))) := Lib.hid
              ⟨by omega, by rw [Int.natCast_add]; rfl, by rw [HT.out, cutP_append, cutP_one, HC1.out, if_pos HZ.out.1, List.append_nil]; exact HOW.out, HB.out, by rw [HVAL0.out]; exact HPW.out, HFW.out⟩
            clear HXW HPW HOW HFW
            go_wp2_with fail
            go_roundw
            case rel => exact ⟨j + 1, HEND.out⟩
            case measure => simp [intOf]; omega
          · have HNE : Hid (t'.size ≠ 0) := Lib.hid (by rw [HES.out]; omega)
            have HCC : Hid (cut1 n (a, t) = [(a, t')]) := Lib.hid (by rw [HC1.out, if_neg (by omega)])
            clear hz0
            have hsz3 : (w2.setCell ⟨x, 1, none⟩ (.string t')).heap.size = w2.heap.size := by simp [World.setCell]
            -- the text is not empty: it goes onto the row that is left
            have hts := str_full HNE.out
            obtain ⟨A1, c1', A2, c2, w5, rfl, r2, o2, k2, f2⟩ := left_push HOW.out (a, t') (Nat.le_trans (cutP_len n (P.take j)) (by rw [List.length_take]; omega))
            rw [hsz3] at r2
            have HR2 := Lib.hid r2
            have n2 := own_ne_row HOW.out HPW.out (by decide)
            have HEND : Hid (CutAt w p b n P T (j + 1) (.slice A2 ((cutP n (P.take j)).length + 1) c2) (.int .i64 ((j : Int) + 1)) w5) := Lib.hid
              ⟨by omega, by rw [Int.natCast_add]; rfl, by rw [HT.out, cutP_append, cutP_one, HCC.out]; rw [List.length_append] at o2 ⊢; exact o2,
                fun k hk => by
                  rcases k2 k hk with e | e
                  · exact HB.out k e
                  · exact Nat.le_trans HSZ.out e,
                by rw [HVAL0.out]; exact HPW.out.fr f2 (fun e => n2 p e rfl), HFW.out.trans (f2.mono (fun k _ e => .inr (HB.out k e)))⟩
            have xx0 : (w2.setCell ⟨x, 1, none⟩ (.string t')).cell? ⟨x, 0, none⟩ = some (.int .i64 (a : Int)) := HXW.out.cell 0
            have xx1 : (w2.setCell ⟨x, 1, none⟩ (.string t')).cell? ⟨x, 1, none⟩ = some (.string t') := HXW.out.cell 1
            clear hsz3 r2 o2 k2 f2 n2
            generalize (cutP n (P.take j)).length = m at *
            go_wp2_with (at_builtin; refine wpList_app rfl (.tmp 63) (.tmp 65) 49 49 rfl rfl HR2.out rfl rfl ?_)
            go_roundw
            case rel => exact ⟨j + 1, HEND.out⟩
            case measure => simp [intOf]; omega)
    · obtain ⟨A1, c1, rfl⟩ := ownP_shape hown
      have hjt : P.take j = P := List.take_of_length_le (by omega)
      rw [hjt] at hown hr hblk ⊢
      have hcl := cutP_len n P
      have hrt : T + totP (cutP n P) - totP P = tot (cutL k n L) := by have := HCUT.out; omega
      rw [hrt] at hr
      have hM := HM.out
      obtain ⟨m1, m2⟩ := hM.mr.ne_row hM.row (by decide)
      have hbl := hM.blt
      have hsub : ∀ j, sub j (cutL k n L) = if j = k then cutP n P else sub j L := fun j => by rw [sub_cut, HPP.out]
      have cc : wr.cell? ⟨p, 0, none⟩ = some (.map (some b)) := hr.cell 0
      have hok := cut_ok hM.ok k n
      have hfS : Fr S w wr := hf.mono (fun i hi e => by
        rcases e with e | e
        · rw [e]; exact hM.sp
        · omega)
      by_cases hc0 : cutP n P = []
      · have mr1 := hM.mr.frg hf (by omega) (fun k' hk' => by have := m2 k' hk'; have := hM.mr.glt hk'; omega)
        obtain ⟨w2, rd, mr2, hf2⟩ := mr1.del k 0 3
        have HD := Lib.hid rd
        have HPZ : Hid (∃ G', Bm w2 p b (cutL k n L) G' (fun i => S i ∨ w.heap.size ≤ i) ∧ Fr S w w2) := Lib.hid ⟨G, ⟨hr.fr hf2 (fun e => m1 e.symm), (mr2.mono (fun i _ x => .inl x)).ext (fun j => by rw [hsub, hc0]), hok, .inl hM.sp⟩, hfS.trans (hf2.mono (fun i _ e => by rw [e]; exact hM.mr.sb))⟩
        rw [hc0] at hown ⊢
        clear hown hr hf hfS mr1 mr2 hf2 rd hsub hok hM m2 hcl hrt
        go_wp2_with (at_delete; refine wpList_del rfl rfl rfl rfl rfl HD.out ?_)
        refine bodyPost_ret (by simp [results, Tryd.results21, go_sem]; rfl) rfl ?_
        first
          | exact ⟨rfl, HPZ.out⟩
          | (obtain ⟨G', a1, a2⟩ := HPZ.out; exact ⟨rfl, ⟨G', a1⟩, a2⟩)
      · obtain ⟨g, hg⟩ : ∃ g, (Value.slice A1 (cutP n P).length c1).ownBlock = some g := by
          rcases hown.2 with ⟨e, h0⟩ | ⟨gg, cap, cur, e, _⟩
          · exact absurd (List.eq_nil_of_length_eq_zero h0) hc0
          · rw [e]; exact ⟨gg, rfl⟩
        obtain ⟨w2, ru, mr2, hf2⟩ := hM.mr.putG k hc0 ⟨hown, hg⟩ hf (by omega) (fun j hj hk' => by have := m2 j hk'; have := hM.mr.glt hk'; omega) (hblk g hg)
        have HD := Lib.hid ru
        have HPZ : Hid (∃ G', Bm w2 p b (cutL k n L) G' (fun i => S i ∨ w.heap.size ≤ i) ∧ Fr S w w2) := Lib.hid ⟨_, ⟨hr.fr hf2 (fun e => m1 e.symm), mr2.ext hsub, hok, .inl hM.sp⟩, hfS.trans (hf2.mono (fun i _ e => by rw [e]; exact hM.mr.sb))⟩
        have hz : (((cutP n P).length : Int) == 0) = false := by
          rw [beq_eq_false_iff_ne]
          intro e
          exact hc0 (List.eq_nil_of_length_eq_zero (by omega))
        clear hown hr hf hfS mr2 hf2 ru hsub hok hM m2 hcl hrt hg hc0
        generalize (cutP n P).length = m at *
        go_wp2_with (at_mapUpdate; refine wpList_upd rfl rfl rfl rfl rfl HD.out ?_)
        refine bodyPost_ret (by simp [results, Tryd.results21, go_sem]; rfl) rfl ?_
        first
          | exact ⟨rfl, HPZ.out⟩
          | (obtain ⟨G', a1, a2⟩ := HPZ.out; exact ⟨rfl, ⟨G', a1⟩, a2⟩)
theorem cut_any (w : World) (p b : Nat) (L : List Wr) (G : Int → Nat) (S : Nat → Prop) (h : Bm w p b L G S) (k n : Int) (hn1 : n ≤ 9223372036854775807) :
    Calls Tryd.prog 21 #[.pointer (some ⟨p, 0, none⟩), .int .i64 k, .int .i64 n] w fun e w' => e = .returned (.int .i64 (if n < 0 then 1 else 0)) ∧ ∃ G', Bm w' p b (if n < 0 then L else cutL k n L) G' (fun i => S i ∨ w.heap.size ≤ i) ∧ Fr S w w' := by
  by_cases hn : n < 0
  · rw [if_pos hn, if_pos hn]
    refine (cut_bad w p k n hn).mono ?_
    rintro e w' ⟨rfl, rfl⟩
    exact ⟨rfl, G, h.mono (fun _ _ x => .inl x), Fr.refl _ _⟩
  · rw [if_neg hn, if_neg hn]
    by_cases h0 : sub k L = []
    · rw [cut_none n h0]
      have c0 := h.c0
      obtain ⟨v, hlk, hv⟩ := h.mr.look k
      have hl := (hlk w (Below.refl _ _)).2
      rw [h0] at hl
      have HL := Lib.hid hl
      have gn : decide (n < 0) = false := by simpa using hn
      have HP := Lib.hid (h.mono (S' := fun i => S i ∨ w.heap.size ≤ i) (fun _ _ x => .inl x))
      have HPZ : Hid (∃ G', Bm w p b L G' (fun i => S i ∨ w.heap.size ≤ i) ∧ Fr S w w) := Lib.hid ⟨G, HP.out, Fr.refl _ _⟩
      clear hl hlk hv h HP
      go_enter Tryd.func21, Tryd.ntmps21
      go_wp2_with (at_lookup; refine wpList_look rfl rfl rfl rfl HL.out ?_)
      refine bodyPost_ret (by simp [results, Tryd.results21, go_sem]; rfl) rfl ?_
      first
          | exact ⟨rfl, HPZ.out⟩
          | (obtain ⟨G', a1, a2⟩ := HPZ.out; exact ⟨rfl, ⟨G', a1⟩, a2⟩)
    · exact cut_some w p b L G S h k n (by omega) hn1 h0
end Go.Proofs.YtkcebbidmlnmmaaDoor
