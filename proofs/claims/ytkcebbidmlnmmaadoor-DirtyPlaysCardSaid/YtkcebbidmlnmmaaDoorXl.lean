/- The document's Cut. -/
import Derived.Test.YtkcebbidmlnmmaaDoorXk
import Derived.Test.YtkcebbidmlnmmaaDoorWl
namespace Go.Proofs.YtkcebbidmlnmmaaDoor
open Go.RowKit
theorem push_one {B : Nat} {W : World} {v : Value} {L : List Wr} (h : OX W v L) (h1 : ∀ x, v.ownBlock = some x → B ≤ x) (hB : B ≤ W.heap.size) (p : Wr) (hl : L.length ≤ 100000) :
    ∃ A c A' c' W', v = .slice A L.length c ∧ (Builtin.append_ #[42, 42] 42 #[.slice A L.length c, .slice (some ⟨W.heap.size, 0, none⟩) 1 1]).run Tryd.prog (W.alloc (.cells #[.int .i64 p.1, .int .i64 (p.2.1 : Int), .string p.2.2] 65)) = .ok (.slice A' (L.length + 1) c') W' ∧
      OX W' (.slice A' (L.length + 1) c') (L ++ [p]) ∧ (∀ x, (Value.slice A' (L.length + 1) c').ownBlock = some x → B ≤ x) ∧ Below B W W' := by
  obtain ⟨A, c, A', c', W', e, r1, o1, _, b1, _, bl⟩ := push_two h (ox_nil W) h1 (fun x _ e => by cases e) hB p hl
  exact ⟨A, c, A', c', W', e, r1, o1, b1, bl⟩
def cutW (k n : Int) (p : Wr) : List Wr := if p.1 = k then (cut1 n p.2).map fun q => (k, q) else [p]
theorem cutL_take (k n : Int) (L : List Wr) (j : Nat) (p : Wr) (h : L[j]? = some p) : cutL k n (L.take (j + 1)) = cutL k n (L.take j) ++ cutW k n p := by
  rw [List.take_add_one, h]
  unfold cutL
  rw [List.flatMap_append]
  congr 1
  simp [cutW]
theorem cutL_len (k n : Int) : ∀ L : List Wr, (cutL k n L).length ≤ L.length
  | [] => by simp [cutL]
  | p :: L => by
    have ih := cutL_len k n L
    rw [cutL_cons, List.length_append, List.length_cons]
    split
    · rw [List.length_map]
      have : (cut1 n p.2).length ≤ 1 := by
        unfold cut1
        split
        · simp
        · split <;> simp
      omega
    · simp; omega
def CuX (w : World) (k n : Int) (L : List Wr) (m : Nat) (vo i : Value) (W : World) : Prop :=
  ∃ j : Nat, j ≤ m ∧ i = .int .i64 j ∧ OX W vo (cutL k n (L.take j)) ∧ (∀ x, vo.ownBlock = some x → w.heap.size ≤ x) ∧ Below w.heap.size w W
theorem rcut_bad (w : World) (q : Nat) (k n : Int) (hn : n < 0) : Calls Tryd.prog 32 #[.pointer (some ⟨q, 0, none⟩), .int .i64 k, .int .i64 n] w fun e w' => e = .returned (.int .i64 1) ∧ w' = w := by
  have g : decide (n < 0) = true := by simpa using hn
  go_enter Tryd.func32, Tryd.ntmps32
  go_wp2
  go_ret
  exact ⟨rfl, rfl⟩
set_option maxHeartbeats 4000000 in
set_option maxRecDepth 20000 in
theorem rcut_good (w : World) (q : Nat) (L : List Wr) (S : Nat → Prop) (h : Xf w q L S) (hok : Ok L) (k n : Int) (hn0 : 0 ≤ n) (hn1 : n ≤ 9223372036854775807) :
    Calls Tryd.prog 32 #[.pointer (some ⟨q, 0, none⟩), .int .i64 k, .int .i64 n] w fun e w' => e = .returned (.int .i64 0) ∧ XGo w q S (cutL k n L) w' := by
  have HU := Lib.hid h.up
  have HSQ := Lib.hid h.sq
  obtain ⟨⟨v, hr, ho, hvs⟩, _, _⟩ := h
  have HRW := Lib.hid hr
  have hql := hr.lt
  obtain ⟨A, c, rfl, hc1, hc2, hat⟩ := ox_shape ho
  have hlen := hok.len
  have HPT := Lib.hid hok.pt
  have HAT := Lib.hid hat
  clear hat ho hr hok hvs
  generalize hL : L.length = m at *
  have HM := Lib.hid hL
  clear hL
  have g0 : decide (n < 0) = false := by simp; omega
  go_enter Tryd.func32, Tryd.ntmps32
  go_wp2_with fail
  clear g0
  go_loopw [7, 8] (fun vo i wr => CuX w k n L m vo i wr) (fun _ i _ => m - (intOf i).toNat)
  case atStart => exact ⟨0, by omega, rfl, ox_nil _, fun x hx => (by cases hx), Below.refl _ _⟩
  case round =>
    obtain ⟨j, hj, rfl, ho, h1, hb⟩ := hrel
    have c0 := (HRW.out.next hb).cell 0
    simp only [List.getElem?_cons_zero] at c0
    have LS : (cutL k n (L.take j)).length ≤ 65536 := Nat.le_trans (cutL_len k n _) (by rw [List.length_take]; omega)
    by_cases hlt : j < m
    · obtain ⟨⟨k', a, t⟩, hp⟩ : ∃ p, L[j]? = some p := ⟨L[j]'(by rw [HM.out]; exact hlt), List.getElem?_eq_getElem _⟩
      obtain ⟨g, rfl, hgl, hcap, d1, d2, d3⟩ := HAT.out j _ hp
      simp only at d1 d2 d3
      have hpt := HPT.out _ (List.mem_of_getElem? hp)
      have ht2 := hpt.2
      simp only at ht2
      have d1' := (hb.cell (p := ⟨g, j * 3, none⟩) hgl).trans d1
      have d2' := (hb.cell (p := ⟨g, j * 3 + 1, none⟩) hgl).trans d2
      have d3' := (hb.cell (p := ⟨g, j * 3 + 2, none⟩) hgl).trans d3
      have HT := Lib.hid (cutL_take k n L j _ hp)
      have hlt' : (j : Int) < (m : Int) := by omega
      have j0 : (0 : Int) ≤ (j : Int) := by omega
      have hal : Below wr.heap.size wr (wr.alloc (.cells #[.int .i64 k', .int .i64 (a : Int), .string t] 65)) := bA (Below.refl _ _) _
      have hR := RowAt.new wr 65 [.int .i64 k', .int .i64 (a : Int), .string t]
      have hbz := hb.size
      clear hp d1 d2 d3 hpt
      by_cases hk : k' = k
      · have hk' : (k' == k) = true := by simpa using hk
        by_cases hna : n ≤ (a : Int)
        · have gn : decide ((a : Int) ≥ n) = true := by simpa using hna
          have gn' : decide (n ≤ (a : Int)) = true := by simpa using hna
          have HC : Hid (cutW k n (k', a, t) = []) := Lib.hid (by unfold cutW cut1; rw [if_pos hk, if_pos hna]; rfl)
          have HP : Hid (CuX w k n L m u7 (.int .i64 ((j + 1 : Nat) : Int)) (wr.alloc (.cells #[.int .i64 k', .int .i64 (a : Int), .string t] 65))) := Lib.hid
            ⟨j + 1, by omega, rfl, by rw [HT.out, HC.out, List.append_nil]; exact ox_next ho hal, h1, bA hb _⟩
          clear ho h1 hk hal hR hna
          go_wp2_with fail
          go_roundw
          case rel => exact HP.out
          case measure => simp [intOf]; omega
        · have gn : decide ((a : Int) ≥ n) = false := by simpa using hna
          have gn' : decide (n ≤ (a : Int)) = false := by simpa using hna
          have e1 : IntKind.i64.wrap (n - (a : Int)) = n - (a : Int) := IntWalk.i64_in _ (by omega)
          obtain ⟨t', ht', htc⟩ : ∃ t' : ByteArray, t' = t.extract 0 (min (t.size : Int) (n - a)).toNat ∧ cutW k n (k', a, t) = [(k', a, t')] := ⟨_, rfl, by
            unfold cutW cut1
            rw [if_pos hk, if_neg hna]
            simp only
            split
            · rename_i h5
              rw [show (min (t.size : Int) (n - (a : Int))).toNat = t.size by omega, ByteArray.extract_zero_size, hk]
              rfl
            · rename_i h5
              rw [show (min (t.size : Int) (n - (a : Int))).toNat = (n - (a : Int)).toNat by omega, hk]
              rfl⟩
          have hal2 : Below wr.heap.size wr (wr.alloc (.cells #[.int .i64 k', .int .i64 (a : Int), .string t'] 65)) := bA (Below.refl _ _) _
          have ho2 := ox_next ho hal2
          have hb2 : Below w.heap.size w (wr.alloc (.cells #[.int .i64 k', .int .i64 (a : Int), .string t'] 65)) := bA hb _
          obtain ⟨A1, c1, A', c', W', rfl, r1, o1, b1, bl⟩ := push_one ho2 h1 hb2.size (k', a, t') (by omega)
          rw [show (wr.alloc (.cells #[.int .i64 k', .int .i64 (a : Int), .string t'] 65)).heap.size = wr.heap.size + 1 by simp] at r1
          have HAPP := Lib.hid r1
          have HP : Hid (CuX w k n L m (.slice A' ((cutL k n (L.take j)).length + 1) c') (.int .i64 ((j + 1 : Nat) : Int)) W') := Lib.hid
            ⟨j + 1, by omega, rfl, by rw [HT.out, htc]; exact o1, b1, hb2.trans bl⟩
          obtain ⟨z, hz⟩ : ∃ z : Nat, min (t.size : Int) (n - (a : Int)) = (z : Int) := ⟨(min (t.size : Int) (n - (a : Int))).toNat, by omega⟩
          have z0 : (0 : Int) ≤ (z : Int) := by omega
          have z1 : (z : Int) ≤ (t.size : Int) := by omega
          rw [hz] at ht'
          have ht2' : t.extract 0 z = t' := by rw [ht']; rfl
          clear r1 o1 b1 bl ho h1 hk hal ho2 hb2 htc hna hR hal2
          generalize (cutL k n (L.take j)).length + 1 = N2 at *
          generalize (cutL k n (L.take j)).length = N1 at *
          clear ht'
          go_wp2_with (at_builtin; refine wpList_app rfl (.tmp 48) (.tmp 50) 42 42 rfl rfl HAPP.out (by rfl) (by rfl) ?_)
          go_roundw
          case rel => exact HP.out
          case measure => simp [intOf]; omega
      · have hk' : (k' == k) = false := by simpa using hk
        have HC : Hid (cutW k n (k', a, t) = [(k', a, t)]) := Lib.hid (by unfold cutW; rw [if_neg hk])
        obtain ⟨A1, c1, A', c', W', rfl, r1, o1, b1, bl⟩ := push_one (ox_next ho hal) h1 (Nat.le_trans hbz hal.size) (k', a, t) (by omega)
        rw [show (wr.alloc (.cells #[.int .i64 k', .int .i64 (a : Int), .string t] 65)).heap.size = wr.heap.size + 1 by simp] at r1
        have HAPP := Lib.hid r1
        have HP : Hid (CuX w k n L m (.slice A' ((cutL k n (L.take j)).length + 1) c') (.int .i64 ((j + 1 : Nat) : Int)) W') := Lib.hid
          ⟨j + 1, by omega, rfl, by rw [HT.out, HC.out]; exact o1, b1, (bA hb _).trans bl⟩
        clear r1 o1 b1 bl ho h1 hk hal hR
        generalize (cutL k n (L.take j)).length + 1 = N2 at *
        generalize (cutL k n (L.take j)).length = N1 at *
        go_wp2_with (at_builtin; refine wpList_app rfl (.tmp 48) (.tmp 50) 42 42 rfl rfl HAPP.out (by rfl) (by rfl) ?_)
        go_roundw
        case rel => exact HP.out
        case measure => simp [intOf]; omega
    · obtain rfl : j = m := by omega
      have e : L.take j = L := List.take_of_length_le (by rw [HM.out]; exact Nat.le_refl _)
      rw [e] at ho
      obtain ⟨A6, c6, rfl⟩ := ownX_shape ho
      have HG : Hid (XGo w q S (cutL k n L) (wr.setCell ⟨q, 0, none⟩ (.slice A6 (cutL k n L).length c6))) := Lib.hid
        (Xf.store HSQ.out HU.out (Fr.of_below hb) (HRW.out.next hb) ho (fun x hx => .inr (h1 x hx)))
      have cf := (HRW.out.next hb).free 0
      clear ho h1
      go_wp2_with fail
      all_goals refine bodyPost_ret (by simp [results, Tryd.results32, go_sem]; rfl) rfl ?_
      all_goals exact ⟨rfl, HG.out⟩
theorem rcut_any (w : World) (q : Nat) (L : List Wr) (S : Nat → Prop) (h : Xf w q L S) (hok : Ok L) (k n : Int) (hn1 : n ≤ 9223372036854775807) :
    Calls Tryd.prog 32 #[.pointer (some ⟨q, 0, none⟩), .int .i64 k, .int .i64 n] w fun e w' => e = .returned (.int .i64 (if n < 0 then 1 else 0)) ∧ XGo w q S (cutA L k n) w' := by
  unfold cutA
  by_cases hn : n < 0
  · rw [if_pos hn, if_pos hn]
    refine (rcut_bad w q k n hn).mono ?_
    rintro e w' ⟨rfl, rfl⟩
    exact ⟨rfl, S, h, Fr.refl _ _, fun _ x => .inl x⟩
  · rw [if_neg hn, if_neg hn]
    exact rcut_good w q L S h hok k n (by omega) hn1
end Go.Proofs.YtkcebbidmlnmmaaDoor
