/- The document's Copy, Take. -/
import Derived.Test.YtkcebbidmlnmmaaDoorXb
namespace Go.Proofs.YtkcebbidmlnmmaaDoor
open Go.RowKit
/-- append of writes, the source nil or not. -/
theorem run_appX' (w : World) (v : Value) (L : List Wr) (hown : OX w v L) (A : Option Addr) (c : Nat) (N : List Wr) (hn : A = none → N = []) (hnews : ∀ ad, A = some ad → ∀ j u, (flatX N)[j]? = some u → w.cell? (ad.add j) = some u) (hl : L.length + N.length ≤ 200000) :
    ∃ A' c' w', (Builtin.append_ #[42, 42] 42 #[v, .slice A N.length c]).run Tryd.prog w = .ok (.slice A' (L.length + N.length) c') w' ∧ OX w' (.slice A' (L.length + N.length) c') (L ++ N) ∧ Fr (fun k => v.ownBlock = some k) w w' ∧
      ((Value.slice A' (L.length + N.length) c').ownBlock = v.ownBlock ∨ (Value.slice A' (L.length + N.length) c').ownBlock = some w.heap.size) := by
  cases A with
  | none =>
    obtain rfl := hn rfl
    obtain ⟨i, z, e1, e2, e3, e4, e5⟩ := info65
    obtain ⟨A', c', rfl⟩ := ownX_shape hown
    refine ⟨A', c', w, run_app_nil (P := Tryd.prog) w 0 42 42 65 i 3 Tryd.underlying42 e1 _ L.length (flatX L) hown c, by simpa using hown, Fr.refl _ _, .inl rfl⟩
  | some ad => exact run_appX w v L hown ad c N (hnews ad rfl) hl
theorem ox_src {W : World} {A : Option Addr} {c : Nat} {L : List Wr} (h : OX W (.slice A L.length c) L) : (A = none → L = []) ∧ ∀ W', Below W.heap.size W W' → ∀ ad, A = some ad → ∀ j u, (flatX L)[j]? = some u → W'.cell? (ad.add j) = some u := by
  have h' := h
  rcases h.2 with ⟨e, h0⟩ | ⟨g, cap, cur, e, hb, hh, h1, h2, _⟩
  · have hL : L = [] := List.eq_nil_of_length_eq_zero h0
    simp only [Value.slice.injEq] at e
    obtain ⟨rfl, _⟩ := e
    exact ⟨fun _ => hL, fun _ _ ad e => by cases e⟩
  · simp only [Value.slice.injEq] at e
    obtain ⟨rfl, _⟩ := e
    refine ⟨fun e => (by cases e), fun W' hW ad e j u hu => ?_⟩
    cases e
    have hgl : g < W.heap.size := (Array.getElem?_eq_some_iff.1 hh).1
    have hk : j < (flatX L).length := (List.getElem?_eq_some_iff.1 hu).1
    rw [Addr.add_mid, Nat.zero_add, hW.cell (p := ⟨g, j, none⟩) hgl, h'.cellAt j (by rw [flatX_len] at hk; omega), hu]
set_option maxHeartbeats 2000000 in
set_option maxRecDepth 20000 in
theorem rcopy_any (w : World) (q : Nat) (L : List Wr) (S : Nat → Prop) (h : Xf w q L S) (hok : Ok L) :
    Calls Tryd.prog 18 #[.pointer (some ⟨q, 0, none⟩)] w fun e w' => ∃ q2 S2, e = .returned (.pointer (some ⟨q2, 0, none⟩)) ∧ Xf w' q2 L S2 ∧ (∀ i, S2 i → w.heap.size ≤ i) ∧ Below w.heap.size w w' := by
  obtain ⟨⟨v, hr, ho, _⟩, _, _⟩ := h
  have c0 := hr.cell 0
  simp only [List.getElem?_cons_zero] at c0
  have hlen := hok.len
  obtain ⟨A, c, rfl⟩ := ownX_shape ho
  obtain ⟨n1, n2⟩ := ox_src ho
  have hal : Below w.heap.size w (w.alloc (.cells #[] 65)) := bA (Below.refl _ _) _
  have hnew : OX (w.alloc (.cells #[] 65)) (.slice (some ⟨w.heap.size, 0, none⟩) ([] : List Wr).length 0) [] :=
    ⟨rfl, .inr ⟨w.heap.size, 0, #[], rfl, by omega, by show (w.heap.push _)[w.heap.size]? = _; simp, by simp, by simp [maxLen], rfl, rfl⟩⟩
  obtain ⟨A', c', w2, r1, o1, f1, k1⟩ := run_appX' (w.alloc (.cells #[] 65)) _ [] hnew A c L n1 (n2 _ hal) (by simp; omega)
  simp only [List.length_nil, Nat.zero_add, List.nil_append] at r1 o1 k1
  have hb2 : Below w.heap.size w w2 := hal.trans (Fr.below f1 hal.size (fun k e => by cases e; exact Nat.le_refl _))
  have hk2 : ∀ k, (Value.slice A' L.length c').ownBlock = some k → w.heap.size ≤ k := fun k e => by
    rcases k1 with h | h
    · rw [h] at e; cases e; exact Nat.le_refl _
    · rw [h] at e; cases e; exact hal.size
  have HR := Lib.hid r1
  have c2 : w2.cell? ⟨q, 0, none⟩ = some (.slice A L.length c) := (hb2.cell (p := ⟨q, 0, none⟩) hr.lt).trans c0
  have c3 : (w.alloc (.cells #[] 65)).cell? ⟨q, 0, none⟩ = some (.slice A L.length c) := (hal.cell (p := ⟨q, 0, none⟩) hr.lt).trans c0
  have hql := hr.lt
  have hal2 : Below w2.heap.size w2 (w2.alloc (.cells #[.slice A' L.length c'] 44)) := bA (Below.refl _ _) _
  have HG : Hid (∃ S2, Xf (w2.alloc (.cells #[.slice A' L.length c'] 44)) w2.heap.size L S2 ∧ (∀ i, S2 i → w.heap.size ≤ i) ∧ Below w.heap.size w (w2.alloc (.cells #[.slice A' L.length c'] 44))) := Lib.hid (by
    refine ⟨fun i => i = w2.heap.size ∨ (Value.slice A' L.length c').ownBlock = some i, Xf.mk_row (RowAt.new w2 44 [.slice A' L.length c']) (ox_next o1 hal2) (.inl rfl) (fun k e => .inr e) (fun i hi => ?_), fun i hi => ?_, bA hb2 _⟩
    · rcases hi with rfl | hi
      · simp
      · have := ox_lt o1 i hi
        have := hal2.size
        omega
    · rcases hi with rfl | hi
      · exact hb2.size
      · exact hk2 i hi)
  clear r1 o1 f1 k1 hk2 hb2 hnew n1 n2 ho hr hal hal2 hok
  generalize L.length = m at *
  go_enter Tryd.func18, Tryd.ntmps18
  go_wp2_with (at_builtin; refine wpList_app rfl (.tmp 3) (.tmp 7) 42 42 rfl rfl HR.out (by rfl) (by rfl) ?_)
  refine bodyPost_ret (by simp [results, Tryd.results18, go_sem]; rfl) rfl ?_
  obtain ⟨S2, h1, h2, h3⟩ := HG.out
  exact ⟨_, S2, rfl, h1, h2, h3⟩
def subX (k : Int) (L : List Wr) : List Wr := L.filter fun p => p.1 == k
theorem subX_take (k : Int) (L : List Wr) (j : Nat) (p : Wr) (h : L[j]? = some p) : subX k (L.take (j + 1)) = subX k (L.take j) ++ (if p.1 = k then [p] else []) := by
  rw [List.take_add_one, h]
  unfold subX
  rw [List.filter_append]
  congr 1
  by_cases e : p.1 = k
  · simp [e]
  · simp [e]
theorem outL_take (k : Int) (L : List Wr) (j : Nat) (p : Wr) (h : L[j]? = some p) : outL k (L.take (j + 1)) = outL k (L.take j) ++ (if p.1 = k then [] else [p]) := by
  rw [List.take_add_one, h]
  unfold outL
  rw [List.filter_append]
  congr 1
  by_cases e : p.1 = k
  · simp [e]
  · simp [e]
/-- Behind j writes. -/
def TkI (w : World) (k : Int) (L : List Wr) (m : Nat) (vo vr i : Value) (W : World) : Prop :=
  ∃ j : Nat, j ≤ m ∧ i = .int .i64 j ∧ OX W vo (subX k (L.take j)) ∧ OX W vr (outL k (L.take j)) ∧ (∀ x, vo.ownBlock = some x → w.heap.size ≤ x) ∧ (∀ x, vr.ownBlock = some x → w.heap.size ≤ x) ∧ (∀ x, vo.ownBlock = some x → vr.ownBlock ≠ some x) ∧ Below w.heap.size w W
/-- One more onto one of two rows. -/
theorem push_two {B : Nat} {W : World} {v u : Value} {L L' : List Wr} (h : OX W v L) (h' : OX W u L') (h1 : ∀ x, v.ownBlock = some x → B ≤ x) (h2 : ∀ x, v.ownBlock = some x → u.ownBlock ≠ some x) (hB : B ≤ W.heap.size) (p : Wr) (hl : L.length ≤ 100000) :
    ∃ A c A' c' W', v = .slice A L.length c ∧ (Builtin.append_ #[42, 42] 42 #[.slice A L.length c, .slice (some ⟨W.heap.size, 0, none⟩) 1 1]).run Tryd.prog (W.alloc (.cells #[.int .i64 p.1, .int .i64 (p.2.1 : Int), .string p.2.2] 65)) = .ok (.slice A' (L.length + 1) c') W' ∧
      OX W' (.slice A' (L.length + 1) c') (L ++ [p]) ∧ OX W' u L' ∧ (∀ x, (Value.slice A' (L.length + 1) c').ownBlock = some x → B ≤ x) ∧ (∀ x, (Value.slice A' (L.length + 1) c').ownBlock = some x → u.ownBlock ≠ some x) ∧ Below B W W' := by
  have hal : Below W.heap.size W (W.alloc (.cells #[.int .i64 p.1, .int .i64 (p.2.1 : Int), .string p.2.2] 65)) := bA (Below.refl _ _) _
  have hro : RowAt (W.alloc (.cells #[.int .i64 p.1, .int .i64 (p.2.1 : Int), .string p.2.2] 65)) W.heap.size 65 [.int .i64 p.1, .int .i64 (p.2.1 : Int), .string p.2.2] := RowAt.new W 65 _
  have hz : (W.alloc (.cells #[.int .i64 p.1, .int .i64 (p.2.1 : Int), .string p.2.2] 65)).heap.size = W.heap.size + 1 := by simp
  obtain ⟨A, c, rfl⟩ := ownX_shape h
  obtain ⟨A', c', w2, r1, o1, f1, k1⟩ := run_appX _ _ L (ox_next h hal) ⟨W.heap.size, 0, none⟩ 1 [p] (fun j u hu => by
    have e1 : (⟨W.heap.size, 0, none⟩ : Addr).add j = ⟨W.heap.size, j, none⟩ := by rw [Addr.add_mid, Nat.zero_add]
    rw [e1, hro.cell j]
    exact hu) (by simp; omega)
  simp only [List.length_singleton] at r1 o1 k1
  refine ⟨A, c, A', c', w2, rfl, r1, o1, ox_fr (ox_next h' hal) f1 (fun x hx e => h2 x e hx), fun x hx => ?_, fun x hx => ?_, (hal.mono hB).trans (Fr.below f1 (by omega) (fun x e => h1 x e))⟩
  · rcases k1 with e | e
    · rw [e] at hx; exact h1 x hx
    · rw [e] at hx; cases hx; omega
  · rcases k1 with e | e
    · rw [e] at hx; exact h2 x hx
    · rw [e, hz] at hx
      cases hx
      intro e2
      have := ox_lt h' _ e2
      omega
set_option maxHeartbeats 4000000 in
set_option maxRecDepth 20000 in
theorem rtake_any (w : World) (q : Nat) (L : List Wr) (S : Nat → Prop) (h : Xf w q L S) (hok : Ok L) (k : Int) :
    Calls Tryd.prog 33 #[.pointer (some ⟨q, 0, none⟩), .int .i64 k] w fun e w' => ∃ v, e = .returned v ∧ OX w' v (subX k L) ∧ XGo w q S (outL k L) w' := by
  have HU := Lib.hid h.up
  have HSQ := Lib.hid h.sq
  obtain ⟨⟨v, hr, ho, hvs⟩, _, _⟩ := h
  have HRW := Lib.hid hr
  have hql := hr.lt
  obtain ⟨A, c, rfl, hc1, hc2, hat⟩ := ox_shape ho
  have hlen := hok.len
  have HAT := Lib.hid hat
  clear hat ho hr hok hvs
  generalize hL : L.length = m at *
  have HM := Lib.hid hL
  clear hL
  go_enter Tryd.func33, Tryd.ntmps33
  go_wp2_with fail
  go_loopw [5, 6, 7] (fun vo vr i wr => TkI w k L m vo vr i wr) (fun _ _ i _ => m - (intOf i).toNat)
  case atStart => exact ⟨0, by omega, rfl, ox_nil _, ox_nil _, fun x hx => (by cases hx), fun x hx => (by cases hx), fun x hx => (by cases hx), Below.refl _ _⟩
  case round =>
    obtain ⟨j, hj, rfl, ho, hr, h1, h2, h3, hb⟩ := hrel
    have c0 := (HRW.out.next hb).cell 0
    simp only [List.getElem?_cons_zero] at c0
    have LS : (subX k (L.take j)).length ≤ 65536 := by
      unfold subX
      refine Nat.le_trans (List.length_filter_le ..) ?_
      rw [List.length_take]; omega
    have LO : (outL k (L.take j)).length ≤ 65536 := by
      unfold outL
      refine Nat.le_trans (List.length_filter_le ..) ?_
      rw [List.length_take]; omega
    by_cases hlt : j < m
    · obtain ⟨⟨k', a, t⟩, hp⟩ : ∃ p, L[j]? = some p := ⟨L[j]'(by rw [HM.out]; exact hlt), List.getElem?_eq_getElem _⟩
      obtain ⟨g, rfl, hgl, hcap, d1, d2, d3⟩ := HAT.out j _ hp
      simp only at d1 d2 d3
      have d1' := (hb.cell (p := ⟨g, j * 3, none⟩) hgl).trans d1
      have d2' := (hb.cell (p := ⟨g, j * 3 + 1, none⟩) hgl).trans d2
      have d3' := (hb.cell (p := ⟨g, j * 3 + 2, none⟩) hgl).trans d3
      have HT := Lib.hid (subX_take k L j _ hp)
      have HT2 := Lib.hid (outL_take k L j _ hp)
      have hlt' : (j : Int) < (m : Int) := by omega
      have j0 : (0 : Int) ≤ (j : Int) := by omega
      clear hp d1 d2 d3
      by_cases hk : k' = k
      · have hk' : (k' == k) = true := by simpa using hk
        obtain ⟨A1, c1, A', c', W', rfl, r1, o1, o2, b1, b2, bl⟩ := push_two ho hr h1 h3 hb.size (k', a, t) (by omega)
        have HAPP := Lib.hid r1
        have HP : Hid (TkI w k L m (.slice A' ((subX k (L.take j)).length + 1) c') u6 (.int .i64 ((j + 1 : Nat) : Int)) W') := Lib.hid
          ⟨j + 1, by omega, rfl, by rw [HT.out, if_pos hk]; exact o1, by rw [HT2.out, if_pos hk, List.append_nil]; exact o2, b1, h2, b2, hb.trans bl⟩
        clear r1 o1 o2 b1 b2 bl ho hr h1 h2 h3 hk
        generalize (subX k (L.take j)).length + 1 = N2 at *
        generalize (subX k (L.take j)).length = N1 at *
        go_wp2_with (at_builtin; refine wpList_app rfl (.tmp 27) (.tmp 35) 42 42 rfl rfl HAPP.out (by rfl) (by rfl) ?_)
        go_roundw
        case rel => exact HP.out
        case measure => simp [intOf]; omega
      · have hk' : (k' == k) = false := by simpa using hk
        obtain ⟨A1, c1, A', c', W', rfl, r1, o1, o2, b1, b2, bl⟩ := push_two hr ho h2 (fun x hx e => h3 x e hx) hb.size (k', a, t) (by omega)
        have HAPP := Lib.hid r1
        have HP : Hid (TkI w k L m u5 (.slice A' ((outL k (L.take j)).length + 1) c') (.int .i64 ((j + 1 : Nat) : Int)) W') := Lib.hid
          ⟨j + 1, by omega, rfl, by rw [HT.out, if_neg hk, List.append_nil]; exact o2, by rw [HT2.out, if_neg hk]; exact o1, h1, b1, fun x hx e => b2 x e hx, hb.trans bl⟩
        clear r1 o1 o2 b1 b2 bl ho hr h1 h2 h3 hk
        generalize (outL k (L.take j)).length + 1 = N2 at *
        generalize (outL k (L.take j)).length = N1 at *
        go_wp2_with (at_builtin; refine wpList_app rfl (.tmp 37) (.tmp 45) 42 42 rfl rfl HAPP.out (by rfl) (by rfl) ?_)
        go_roundw
        case rel => exact HP.out
        case measure => simp [intOf]; omega
    · obtain rfl : j = m := by omega
      have e : L.take j = L := List.take_of_length_le (by rw [HM.out]; exact Nat.le_refl _)
      rw [e] at ho hr
      obtain ⟨A5, c5, rfl⟩ := ownX_shape ho
      obtain ⟨A6, c6, rfl⟩ := ownX_shape hr
      have HG : Hid (OX (wr.setCell ⟨q, 0, none⟩ (.slice A6 (outL k L).length c6)) (.slice A5 (subX k L).length c5) (subX k L) ∧ XGo w q S (outL k L) (wr.setCell ⟨q, 0, none⟩ (.slice A6 (outL k L).length c6))) := Lib.hid
        ⟨ox_fr ho ((Fr.refl (· = q) wr).setCell (b := q) rfl (.slice A6 (outL k L).length c6)) (fun x hx e => by have := h1 x hx; omega), Xf.store HSQ.out HU.out (Fr.of_below hb) (HRW.out.next hb) hr (fun x hx => .inr (h2 x hx))⟩
      have cf := (HRW.out.next hb).free 0
      clear ho hr h1 h2 h3
      go_wp2_with fail
      all_goals refine bodyPost_ret (by simp [results, Tryd.results33, go_sem]; rfl) rfl ?_
      all_goals exact ⟨_, rfl, HG.out⟩
end Go.Proofs.YtkcebbidmlnmmaaDoor
