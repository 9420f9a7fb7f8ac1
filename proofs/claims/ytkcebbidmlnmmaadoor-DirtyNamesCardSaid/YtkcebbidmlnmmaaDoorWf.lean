/- Over. -/
import Derived.Test.YtkcebbidmlnmmaaDoorWe
namespace Go.Proofs.YtkcebbidmlnmmaaDoor
open Go.RowKit
section
variable {P : Program} {w w' : World} {ops : Array Oper} {o : Oper} {a : Act} {K : Act → World → Prop} {Q : Exit → Act → World → Prop} {E : Prop} {rest : List Oper} {v y v' : Value}
theorem wpList_copy (hw : Region.wanted o (yielded ops a.tmps) = true) (s x : Operand) (t t' ty : TypeId)
    (ho : o.op = .call { callee := .builtin .copy, args := #[s, x], argTypes := #[t, t'] }) (hty : o.type = ty) (hr : (Builtin.copy_ #[t, t'] ty #[v, y]).run P w = .ok v' w') (hs : a.eval s = v) (hx : a.eval x = y)
    (h : wpList P ops Q rest (a.put o.dst v') w') : wpList P ops Q (o :: rest) a w := by
  refine BigFrame.wpList_want hw fun K hK => ?_
  unfold Oper.wp execOp
  subst hty
  simp only [ho, resolve, invoke, builtin, Sem.run_bind, Sem.run_pure, Result.andThen_ok, List.map_toArray, List.map_cons, List.map_nil, hs, hx, hr]
  exact hK _ _ h
theorem step_copy (hg : o.guard = none) (s x : Operand) (t t' ty : TypeId)
    (ho : o.op = .call { callee := .builtin .copy, args := #[s, x], argTypes := #[t, t'] }) (hty : o.type = ty) (hr : (Builtin.copy_ #[t, t'] ty #[v, y]).run P w = .ok v' w') (hs : a.eval s = v) (hx : a.eval x = y) (h : K (a.put o.dst v') w') :
    if Region.wanted o (yielded ops a.tmps) = true then Oper.wp P o a w K Q else E := by
  have hw : Region.wanted o (yielded ops a.tmps) = true := by simp [Region.wanted, hg]
  rw [if_pos hw]
  unfold Oper.wp execOp
  subst hty
  simp only [ho, resolve, invoke, builtin, Sem.run_bind, Sem.run_pure, Result.andThen_ok, List.map_toArray, List.map_cons, List.map_nil, hs, hx, hr]
  exact h
end
theorem putB_zero (f : List UInt8) (N : Nat) : putB (List.replicate N 0) 0 f = ext f N := by
  unfold putB ext
  simp
theorem ba_eta (s : ByteArray) : (⟨s.data.toList.toArray⟩ : ByteArray) = s := by cases s; simp
theorem over_nil (w : World) (k : Int) (s : ByteArray) : Calls Tryd.prog 13 #[.pointer none, .int .i64 k, .string s] w fun e w' => e = .returned (.string s) ∧ w' = w := by
  go_enter Tryd.func13, Tryd.ntmps13
  go_wp2
  go_ret
  exact ⟨rfl, rfl⟩
set_option maxHeartbeats 2000000 in
set_option maxRecDepth 20000 in
theorem over_any (w : World) (p b : Nat) (L : List Wr) (G : Int → Nat) (S : Nat → Prop) (h : Bm w p b L G S) (k : Int) (s : ByteArray) (hs : s.size ≤ 100000) :
    Calls Tryd.prog 13 #[.pointer (some ⟨p, 0, none⟩), .int .i64 k, .string s] w fun e w' => e = .returned (.string ⟨(overL (sub k L) s.data.toList).toArray⟩) ∧ Below w.heap.size w w' := by
  have c0 := h.c0
  have hpl := h.row.lt
  obtain ⟨v, hlk, hv⟩ := h.mr.look k
  have HL := Lib.hid (hlk w (Below.refl _ _)).1
  obtain ⟨N, hN, hN1, hN2⟩ := sizeL_nat (sub k L) s.size
  have hNle : N ≤ 100000 := by
    have := sizeL_le (sub k L) h.ok.sub s.size 100000 (by omega) (by omega)
    omega
  have HSZ := size_any w p b L G S h k s.size
  rw [hN] at HSZ
  have HSZ := Lib.hid HSZ
  have hge := (sizeL_ge (sub k L) s.size).2
  rw [hN] at hge
  have hok := h.ok.sub (k := k)
  have hlen := h.ok.sublen k
  have HLK := Lib.hid hlk
  clear hlk h hN
  generalize sub k L = P at *
  cases hP : P with
  | nil =>
    subst hP
    rcases hv with ⟨_, rfl⟩ | ⟨h0, _⟩
    · rw [show overL [] s.data.toList = s.data.toList from rfl, ba_eta]
      clear hge hok hN2
      go_enter Tryd.func13, Tryd.ntmps13
      go_wp2_with (at_lookup; refine wpList_look rfl rfl rfl rfl HL.out ?_)
      go_ret
      exact ⟨rfl, Below.refl _ _⟩
    · exact absurd rfl h0
  | cons q P' =>
    have hpos : 0 < P.length := by rw [hP]; simp
    rw [← hP]
    clear hP q P'
    obtain ⟨A, c, rfl, hat⟩ := hv.shape
    have HAT := Lib.hid hat
    have HOK := Lib.hid hok
    have HGE := Lib.hid hge
    have HN2 := Lib.hid hN2
    have hz : ((P.length : Int) == 0) = false := by rw [beq_eq_false_iff_ne]; omega
    clear hat hok hge hv hN2
    go_enter Tryd.func13, Tryd.ntmps13
    go_wp2_with (at_lookup; refine wpList_look rfl rfl rfl rfl HL.out ?_)
    refine HSZ.out.mono ?_
    rintro e w1 ⟨rfl, hb1⟩
    have hmk := make30 w1 N (by omega)
    have hro := RowAt.new w1 5 ((List.replicate N (0 : UInt8)).map B8)
    obtain ⟨wc, hc, hrc, hfc⟩ := copy_row hro 0 s (by rw [List.length_replicate]; omega) N
    rw [List.length_replicate, Nat.sub_zero] at hc
    rw [putB_zero] at hrc
    have HC := Lib.hid hc
    have hal : Below w1.heap.size w1 (w1.alloc (.cells ((List.replicate N (0 : UInt8)).map B8).toArray 5)) := (Below.refl _ _).alloc (Nat.le_refl _) _
    have hbc : Below w.heap.size w wc := (bt hb1 hal).trans ((Fr.below hfc (B := w1.heap.size) hal.size (fun k e => by rw [e]; exact Nat.le_refl _)).mono hb1.size)
    have HL2 := Lib.hid (HLK.out wc hbc).1
    have hgw : w.heap.size ≤ w1.heap.size := hb1.size
    have c0c : wc.cell? ⟨p, 0, none⟩ = some (.map (some b)) := (hbc.cell (p := ⟨p, 0, none⟩) hpl).trans c0
    clear hc hro hfc hal
    obtain ⟨F, hF⟩ : ∃ F : Array Value, F = ((List.replicate N (0 : UInt8)).map B8).toArray := ⟨_, rfl⟩
    rw [← hF] at hmk HC
    clear hF
    have hcp := HC.out
    go_wp2_with (at_lookup; refine wpList_look rfl rfl rfl rfl HL2.out ?_)
    clear hmk HC hcp c0c
    generalize w1.heap.size = g at *
    go_loopw [39] (fun i wr => ∃ j : Nat, j ≤ P.length ∧ i = .int .i64 j ∧ RowAt wr g 5 ((ext (overL (P.take j) s.data.toList) N).map B8) ∧ Below w.heap.size w wr) (fun i _ => P.length - (intOf i).toNat)
    case atStart => exact ⟨0, by omega, rfl, hrc, hbc⟩
    case round =>
      obtain ⟨j, hj, rfl, hr, hb⟩ := hrel
      clear hrc hbc
      by_cases hlt : j < P.length
      · obtain ⟨⟨a, t⟩, hp⟩ : ∃ p, P[j]? = some p := ⟨P[j], List.getElem?_eq_getElem _⟩
        obtain ⟨rfl, hgl, hcap, d1, d2⟩ := HAT.out j _ hp
        have hmem := List.mem_of_getElem? hp
        have ht2 := (HOK.out _ hmem).2
        have ht3 := HGE.out _ hmem
        have ht1 := (HOK.out _ hmem).1
        simp only at ht1 ht2 d1 d2 ht3
        have hna : ¬ N = a := by omega
        clear ht1
        have d1' := (hb.cell (p := ⟨G k, j * 2, none⟩) hgl).trans d1
        have d2' := (hb.cell (p := ⟨G k, j * 2 + 1, none⟩) hgl).trans d2
        have HT := Lib.hid (show P.take (j + 1) = P.take j ++ [(a, t)] by rw [List.take_add_one, hp]; rfl)
        obtain ⟨m, _, _, hm⟩ := sizeL_nat (P.take j) s.size
        have hol : (overL (P.take j) s.data.toList).length ≤ N := by
          have h1 := hm s.data.toList (size_len s)
          have h2 := HN2.out s.data.toList (size_len s)
          have h3 : overL P s.data.toList = overL (P.drop j) (overL (P.take j) s.data.toList) := by
            unfold overL
            rw [← List.foldl_append, List.take_append_drop]
          obtain ⟨m', _, h5, h4⟩ := sizeL_nat (P.drop j) (overL (P.take j) s.data.toList).length
          rw [h3, h4 _ rfl] at h2
          omega
        have hel : (ext (overL (P.take j) s.data.toList) N).length = N := by rw [ext_len]; omega
        have hal : Below wr.heap.size wr (wr.alloc (.cells #[.int .i64 (a : Int), .string t] 58)).drew := (bA (Below.refl _ _) _).drew
        obtain ⟨wc2, hc2, hrc2, hfc2⟩ := copy_row (hr.next hal) a t (by omega) (N - a)
        rw [hel] at hc2
        rw [ext_ovr (p := (a, t)) (by simp only; omega) hol, ← overL_snoc, ← HT.out] at hrc2
        have HC2 := Lib.hid hc2
        have hb2 : Below w.heap.size w wc2 := (bt hb hal).trans (Fr.below hfc2 (B := w.heap.size) (by have := hal.size; have := hb.size; omega) (fun k e => by omega))
        have HRC := Lib.hid hrc2
        have l1 : (a : Int) ≤ (N : Int) := by omega
        have l2 : (0 : Int) ≤ (a : Int) := by omega
        clear hp d1 d2 hc2 hrc2 hfc2 hel hol hm hr hmem ht3
        go_wp2_with fail
        go_region_law (refine step_copy rfl (.tmp 46) (.tmp 48) 30 9 3 rfl rfl HC2.out (by rfl) (by rfl) ?_)
        all_goals go_wp2_with fail
        all_goals go_roundw
        all_goals first
          | exact ⟨j + 1, by omega, by go_num, HRC.out, hb2⟩
          | (simp [intOf]; omega)
      · have e : ext (overL (P.take j) s.data.toList) N = overL P s.data.toList := by
          rw [List.take_of_length_le (by omega)]
          exact ext_same (by rw [HN2.out _ (size_len s)]; omega)
        rw [e] at hr
        have hl := HN2.out s.data.toList (size_len s)
        have hconv := run_string_of_slice (P := Tryd.prog) wr 30 5 9 Tryd.underlying30 Tryd.underlying5 Tryd.underlying9 (some ⟨g, 0, none⟩) N N (overL P s.data.toList) (by
          have := SliceAt.row hr
          rw [List.length_map, hl] at this
          exact this)
        clear hr hl e
        go_wp2_with fail
        go_ret
        exact ⟨rfl, hb⟩
end Go.Proofs.YtkcebbidmlnmmaaDoor
