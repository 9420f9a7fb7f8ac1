/- Clone, Take. -/
import Derived.Test.YtkcebbidmlnmmaaDoorWf
import Derived.Lib.SliceRun
namespace Go.Proofs.YtkcebbidmlnmmaaDoor
open Go.RowKit
theorem clone_run (w : World) (P : List Pt) (g : Nat) (v : Value) (h : RowV w P g v) (h0 : P ≠ []) (hl : P.length ≤ 65536) :
    ∃ v' w', (Builtin.append_ #[49, 49] 49 #[.slice (some ⟨w.heap.size, 0, none⟩) 0 0, v]).run Tryd.prog (w.alloc (.cells #[] 58)) = .ok v' w' ∧ ∃ g', RowV w' P g' v' ∧ w.heap.size ≤ g' ∧ Below w.heap.size w w' := by
  rcases h with ⟨e, _⟩ | ⟨_, h⟩
  · exact absurd e h0
  obtain ⟨cap, rfl, h1, h2, _⟩ := h.shape
  have hal : Below w.heap.size w (w.alloc (.cells #[] 58)) := (Below.refl _ _).alloc (Nat.le_refl _) _
  have hz : (w.alloc (.cells #[] 58)).heap.size = w.heap.size + 1 := by simp
  have hnew : (w.alloc (.cells #[] 58)).ownsRow 0 58 2 (.slice (some ⟨w.heap.size, 0, none⟩) ([] : List Pt).length 0) ([] : List Pt).length (flatP []) :=
    ⟨rfl, .inr ⟨w.heap.size, 0, #[], rfl, by omega, by show (w.heap.push _)[w.heap.size]? = _; simp, by simp, by simp [maxLen], rfl, rfl⟩⟩
  obtain ⟨A1, c1, w2, r1, o1, f1, k1⟩ := run_appP (w.alloc (.cells #[] 58)) (.slice (some ⟨w.heap.size, 0, none⟩) 0 0) [] hnew ⟨g, 0, none⟩ cap P (fun j u hu => by
    have e1 : (⟨g, 0, none⟩ : Addr).add j = ⟨g, j, none⟩ := by rw [Addr.add_mid, Nat.zero_add]
    have hk : j < (flatP P).length := (List.getElem?_eq_some_iff.1 hu).1
    rw [e1, hal.cell (p := ⟨g, j, none⟩) h.lt, h.own.cellAt j (by rw [flatP_len] at hk; omega), hu]) (by simp; omega)
  simp only [List.length_nil, Nat.zero_add] at r1 k1 o1
  rw [List.nil_append] at o1
  have hA : ∀ k, (Value.slice (some (⟨w.heap.size, 0, none⟩ : Addr)) 0 0).ownBlock = some k → w.heap.size ≤ k := fun k hk => by cases hk; exact Nat.le_refl _
  obtain ⟨g', hg'⟩ : ∃ g', (Value.slice A1 P.length c1).ownBlock = some g' := by
    rcases o1.2 with ⟨e, h0'⟩ | ⟨gg, cap, cur, e, _⟩
    · exact absurd (List.eq_nil_of_length_eq_zero h0') h0
    · rw [e]; exact ⟨gg, rfl⟩
  have hgn : w.heap.size ≤ g' := by
    rcases k1 with e | e
    · exact hA g' (by rw [← e]; exact hg')
    · rw [hg'] at e; cases e; omega
  refine ⟨_, w2, r1, g', .inr ⟨h0, ⟨o1, hg'⟩⟩, hgn, ?_⟩
  exact hal.trans (Fr.below (f1.mono (fun k _ e => hA k e)) hal.size (fun k e => e))
set_option maxRecDepth 20000 in
theorem clone_any (w : World) (P : List Pt) (g : Nat) (v : Value) (h : RowV w P g v) (hl : P.length ≤ 65536) :
    Calls Tryd.prog 30 #[v] w fun e w' => ∃ v' g', e = .returned v' ∧ RowV w' P g' v' ∧ w.heap.size ≤ g' ∧ Below w.heap.size w w' := by
  have hq49 : ∀ (w : World) (a : Option Addr) (n c : Nat), (binOp .eql 49 (.slice a n c) (.slice none 0 0)).run Tryd.prog w = .ok (.bool a.isNone) w := fun w a n c => Lib.run_eql_slice_nil w 49 58 a n c 0 0 Tryd.underlying49
  by_cases h0 : P = []
  · subst h0
    rcases h with ⟨_, rfl⟩ | ⟨h0, _⟩
    · go_enter Tryd.func30, Tryd.ntmps30
      go_wp2
      refine bodyPost_ret (by simp [results, Tryd.results30, go_sem]; rfl) rfl ?_
      exact ⟨_, rfl, w.heap.size, .inl ⟨rfl, rfl⟩, Nat.le_refl _, Below.refl _ _⟩
    · exact absurd rfl h0
  · obtain ⟨v', w', hr, g', h1, h2, h3⟩ := clone_run w P g v h h0 hl
    have HP : Hid (RowV w' P g' v' ∧ w.heap.size ≤ g' ∧ Below w.heap.size w w') := Lib.hid ⟨h1, h2, h3⟩
    have HR := Lib.hid hr
    obtain ⟨A, c, rfl, hat⟩ := h.shape
    obtain ⟨q, hq⟩ : ∃ q, P[0]? = some q := by cases P with | nil => exact absurd rfl h0 | cons q _ => exact ⟨q, rfl⟩
    obtain ⟨rfl, _⟩ := hat 0 q hq
    clear hr h1 h2 h3 hat hq h h0
    go_enter Tryd.func30, Tryd.ntmps30
    go_wp2_with (at_builtin; refine wpList_app rfl (.tmp 5) (.tmp 6) 49 49 rfl rfl HR.out rfl rfl ?_)
    refine bodyPost_ret (by simp [results, Tryd.results30, go_sem]; rfl) rfl ?_
    obtain ⟨h1, h2, h3⟩ := HP.out
    exact ⟨_, _, rfl, h1, h2, h3⟩
def totP (P : List Pt) : Nat := (P.map fun p => p.2.size).sum
def outL (k : Int) (L : List Wr) : List Wr := L.filter fun p => !(p.1 == k)
theorem totP_cons (p : Pt) (P : List Pt) : totP (p :: P) = p.2.size + totP P := by simp [totP]
theorem RowV.fr {W W' : World} {P : List Pt} {g : Nat} {v : Value} {M : Nat → Prop} (h : RowV W P g v) (hf : Fr M W W') (hm : ¬ M g) : RowV W' P g v := by
  rcases h with h | ⟨h0, h⟩
  · exact .inl h
  · exact .inr ⟨h0, h.fr hf hm⟩
theorem totP_append (P Q : List Pt) : totP (P ++ Q) = totP P + totP Q := by simp [totP]
theorem sub_cons (k : Int) (p : Wr) (L : List Wr) : sub k (p :: L) = if p.1 = k then p.2 :: sub k L else sub k L := by
  unfold sub
  rw [List.filter_cons]
  by_cases e : p.1 = k
  · simp [e]
  · simp [e]
theorem out_cons (k : Int) (p : Wr) (L : List Wr) : outL k (p :: L) = if p.1 = k then outL k L else p :: outL k L := by
  unfold outL
  rw [List.filter_cons]
  by_cases e : p.1 = k
  · simp [e]
  · simp [e]
theorem tot_split (k : Int) : ∀ L : List Wr, tot L = totP (sub k L) + tot (outL k L)
  | [] => rfl
  | p :: L => by
    have := tot_split k L
    rw [sub_cons, out_cons, tot_cons]
    split
    · rw [totP_cons]; omega
    · rw [tot_cons]; omega
theorem sub_out (j k : Int) : ∀ L : List Wr, sub j (outL k L) = if j = k then [] else sub j L
  | [] => by simp [sub, outL]
  | p :: L => by
    have ih := sub_out j k L
    rw [out_cons]
    by_cases e : p.1 = k
    · rw [if_pos e, ih]
      by_cases e2 : j = k
      · rw [if_pos e2, if_pos e2]
      · rw [if_neg e2, if_neg e2, sub_cons, if_neg (fun x => e2 (by rw [← x, e]))]
    · rw [if_neg e, sub_cons, ih, sub_cons]
      by_cases e2 : j = k
      · rw [if_pos e2, if_pos e2, if_neg (fun x => e (by rw [x, e2]))]
      · rw [if_neg e2, if_neg e2]
theorem out_ok {L : List Wr} (h : Ok L) (k : Int) : Ok (outL k L) :=
  ⟨fun p hp => h.pt p (List.mem_filter.1 hp).1, by have := tot_split k L; have := h.top; omega⟩
theorem totP_take (P : List Pt) (j : Nat) (p : Pt) (h : P[j]? = some p) : totP (P.take (j + 1)) = totP (P.take j) + p.2.size := by
  rw [List.take_add_one, h]
  simp [totP]
theorem totP_le (P : List Pt) (j : Nat) : totP (P.take j) ≤ totP P := by
  have h := List.take_append_drop j P
  have : totP P = totP (P.take j) + totP (P.drop j) := by
    rw [← totP_append, h]
  omega
theorem take_nil (w : World) (k : Int) : Calls Tryd.prog 22 #[.pointer none, .int .i64 k] w fun e w' => e = .returned (.slice none 0 0) ∧ w' = w := by
  go_enter Tryd.func22, Tryd.ntmps22
  go_wp2
  go_ret
  exact ⟨rfl, rfl⟩
set_option maxHeartbeats 2000000 in
set_option maxRecDepth 20000 in
theorem take_any (w : World) (p b : Nat) (L : List Wr) (G : Int → Nat) (S : Nat → Prop) (h : Bm w p b L G S) (k : Int) :
    Calls Tryd.prog 22 #[.pointer (some ⟨p, 0, none⟩), .int .i64 k] w fun e w' => ∃ v' g', e = .returned v' ∧ RowV w' (sub k L) g' v' ∧ w.heap.size ≤ g' ∧ Bm w' p b (outL k L) G S ∧ Fr S w w' := by
  have c0 := h.c0
  have hpl := h.row.lt
  obtain ⟨v, hlk, hv⟩ := h.mr.look k
  have HL := Lib.hid (hlk w (Below.refl _ _)).1
  have hlen := h.ok.sublen k
  have HCL := Lib.hid (clone_any w (sub k L) (G k) v hv hlen)
  have HM := Lib.hid h
  have hsplit := tot_split k L
  have htop := h.ok.top
  have HOK := Lib.hid (h.ok.sub (k := k))
  have hsub : ∀ j, sub j (outL k L) = if j = k then [] else sub j L := fun j => sub_out j k L
  have HSUB := Lib.hid hsub
  have HOO := Lib.hid (out_ok h.ok k)
  have hvs : ∃ A c, v = .slice A (sub k L).length c := by obtain ⟨A, c, e, _⟩ := hv.shape; exact ⟨A, c, e⟩
  clear hlk hv h hsub
  obtain ⟨A0, c0', rfl⟩ := hvs
  have hrow := HM.out.row
  obtain ⟨n0, hn0⟩ : ∃ n0, tot (outL k L) = n0 := ⟨_, rfl⟩
  rw [hn0] at hsplit
  rw [hsplit] at hrow htop
  have HROW := Lib.hid hrow
  have HN0 := Lib.hid hn0
  clear hrow hsplit hn0
  generalize sub k L = P at *
  go_enter Tryd.func22, Tryd.ntmps22
  go_wp2_with (at_lookup; refine wpList_look rfl rfl rfl rfl HL.out ?_)
  refine HCL.out.mono ?_
  rintro e w1 ⟨v', g', rfl, hv', hg', hb1⟩
  obtain ⟨A, c, rfl, hat⟩ := hv'.shape
  have HAT := Lib.hid hat
  have HV := Lib.hid hv'
  clear hat hv' HCL
  go_wp2_with fail
  go_loopw [19] (fun i wr => ∃ j : Nat, j ≤ P.length ∧ i = .int .i64 j ∧ RowAt wr p 61 [.map (some b), .int .i64 ((totP P - totP (P.take j) + n0 : Nat) : Int)] ∧ Fr (· = p) w1 wr) (fun i _ => P.length - (intOf i).toNat)
  case atStart => exact ⟨0, by omega, rfl, by simpa [totP] using HROW.out.next hb1, Fr.refl _ _⟩
  case round =>
    obtain ⟨j, hj, rfl, hr, hf⟩ := hrel
    have hw1 := hb1.size
    by_cases hlt : j < P.length
    · obtain ⟨⟨a, t⟩, hp⟩ : ∃ p, P[j]? = some p := ⟨P[j], List.getElem?_eq_getElem _⟩
      obtain ⟨rfl, hgl, hcap, d1, d2⟩ := HAT.out j _ hp
      simp only at d1 d2
      have hne : g' ≠ p := by omega
      have d1' : wr.cell? ⟨g', j * 2, none⟩ = some (.int .i64 (a : Int)) := by
        rw [← d1]; unfold World.cell?; rw [hf.block g' hgl hne]
      have d2' : wr.cell? ⟨g', j * 2 + 1, none⟩ = some (.string t) := by
        rw [← d2]; unfold World.cell?; rw [hf.block g' hgl hne]
      have hpl2 := hr.lt
      have c1 := hr.cell 1
      have cf := hr.free 1
      have ht := totP_take P j _ hp
      have hle := totP_le P (j + 1)
      simp only at ht
      have e1 : IntKind.i64.wrap (((totP P - totP (P.take j) + n0 : Nat) : Int) - (t.size : Int)) = ((totP P - totP (P.take (j + 1)) + n0 : Nat) : Int) := by
        rw [IntWalk.i64_in _ (by omega)]; omega
      simp only [List.getElem?_cons_succ, List.getElem?_cons_zero] at c1
      generalize totP P - totP (P.take j) + n0 = n1 at *
      obtain ⟨n2, hn2⟩ : ∃ n2, totP P - totP (P.take (j + 1)) + n0 = n2 := ⟨_, rfl⟩
      rw [hn2] at e1
      have HN2 := Lib.hid hn2
      clear hn2
      clear hp d1 d2 ht hle
      go_wp2_with fail
      go_region_law fail
      all_goals go_wp2_with fail
      all_goals go_roundw
      all_goals first
        | exact ⟨j + 1, by omega, by go_num, by rw [HN2.out]; exact ((hr.set 1 _).next (bA (Below.refl _ _) _)).drew, ((hf.setCell rfl _).alloc _).drew⟩
        | (simp [intOf]; omega)
    · have e : totP P - totP (P.take j) + n0 = n0 := by rw [List.take_of_length_le (by omega)]; omega
      rw [e] at hr
      have HM1 := HM.out.next hb1
      obtain ⟨m1, m2⟩ := HM1.mr.ne_row HM1.row (by decide)
      have mr1 := HM1.mr.frg hf m1 m2
      obtain ⟨w2, rd, mr2, hf2⟩ := mr1.del k 0 3
      have HD := Lib.hid rd
      have hpb := m1
      have cc : wr.cell? ⟨p, 0, none⟩ = some (.map (some b)) := hr.cell 0
      have HP : Hid (RowV w2 P g' (.slice A P.length c) ∧ Bm w2 p b (outL k L) G S ∧ Fr S w w2) := Lib.hid (by
        have hb := HM.out.blt
        refine ⟨(HV.out.fr hf (by omega)).fr hf2 (by omega), ⟨?_, mr2.ext (fun j => (HSUB.out j).trans rfl), HOO.out, HM.out.sp⟩, ?_⟩
        · rw [HN0.out]
          exact hr.fr hf2 (fun e => m1 e.symm)
        · exact ((Fr.of_below hb1).trans (hf.mono (fun i _ e => by rw [e]; exact HM.out.sp))).trans (hf2.mono (fun i _ e => by rw [e]; exact HM.out.mr.sb)))
      clear hr hf mr1 mr2 hf2 rd m2 HM1 m1 e
      go_wp2_with (at_delete; refine wpList_del rfl rfl rfl rfl rfl HD.out ?_)
      refine bodyPost_ret (by simp [results, Tryd.results22, go_sem]; rfl) rfl ?_
      obtain ⟨a1, a2, a3⟩ := HP.out
      exact ⟨_, _, rfl, a1, hg', a2, a3⟩
end Go.Proofs.YtkcebbidmlnmmaaDoor
