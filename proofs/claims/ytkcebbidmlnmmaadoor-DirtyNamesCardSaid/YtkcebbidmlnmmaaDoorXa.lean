/- The document's buffer in memory: one row of writes with their objects; Held, Size, Copy. -/
import Derived.Test.YtkcebbidmlnmmaaDoorWi
namespace Go.Proofs.YtkcebbidmlnmmaaDoor
open Go.RowKit
def flatX (L : List Wr) : List Value := L.flatMap fun p => [.int .i64 p.1, .int .i64 (p.2.1 : Int), .string p.2.2]
theorem flatX_cons (p : Wr) (L : List Wr) : flatX (p :: L) = .int .i64 p.1 :: .int .i64 (p.2.1 : Int) :: .string p.2.2 :: flatX L := rfl
theorem flatX_append (L L' : List Wr) : flatX (L ++ L') = flatX L ++ flatX L' := by simp [flatX]
theorem flatX_len : ∀ L : List Wr, (flatX L).length = L.length * 3
  | [] => rfl
  | p :: L => by rw [flatX_cons]; simp only [List.length_cons, flatX_len L]; omega
theorem flatX_at : ∀ (L : List Wr) (i : Nat) (p : Wr), L[i]? = some p → (flatX L)[i * 3]? = some (.int .i64 p.1) ∧ (flatX L)[i * 3 + 1]? = some (.int .i64 (p.2.1 : Int)) ∧ (flatX L)[i * 3 + 2]? = some (.string p.2.2)
  | [], _, _, h => by simp at h
  | q :: L, 0, p, h => by
    obtain rfl : q = p := by simpa using h
    exact ⟨rfl, rfl, rfl⟩
  | q :: L, i + 1, p, h => by
    rw [flatX_cons, show (i + 1) * 3 = i * 3 + 1 + 1 + 1 by omega]
    exact flatX_at L i p (by simpa using h)
theorem flatX_one (L : List Wr) : ∀ u ∈ flatX L, u.oneCell' = true := by
  intro u hu
  unfold flatX at hu
  rw [List.mem_flatMap] at hu
  obtain ⟨p, _, h⟩ := hu
  rcases List.mem_cons.1 h with rfl | h
  · rfl
  · rcases List.mem_cons.1 h with rfl | h
    · rfl
    · rw [List.mem_singleton.1 h]; rfl
set_option maxRecDepth 100000 in
theorem info65 : ∃ i z, Tryd.prog.info? 65 = some i ∧ i.zero = some z ∧ i.size = 3 ∧ i.bytes = 32 ∧ z.cells.size = 3 := ⟨_, _, rfl, rfl, rfl, rfl, rfl⟩
theorem ownX_shape {w : World} {e : TypeId} {s : Nat} {v : Value} {n : Nat} {xs : List Value} (h : w.ownsRow 0 e s v n xs) : ∃ A c, v = .slice A n c := by
  rcases h.2 with ⟨rfl, rfl⟩ | ⟨g, cap, cur, rfl, _⟩
  · exact ⟨_, _, rfl⟩
  · exact ⟨_, _, rfl⟩
/-- A row of writes with their objects. -/
abbrev OX (W : World) (v : Value) (L : List Wr) : Prop := W.ownsRow 0 65 3 v L.length (flatX L)
/-- append of writes onto a row of their own. -/
theorem run_appX (w : World) (v : Value) (L : List Wr) (hown : OX w v L) (ad : Addr) (c : Nat) (N : List Wr) (hnews : ∀ j u, (flatX N)[j]? = some u → w.cell? (ad.add j) = some u) (hl : L.length + N.length ≤ 200000) :
    ∃ A' c' w', (Builtin.append_ #[42, 42] 42 #[v, .slice (some ad) N.length c]).run Tryd.prog w = .ok (.slice A' (L.length + N.length) c') w' ∧ OX w' (.slice A' (L.length + N.length) c') (L ++ N) ∧ Fr (fun k => v.ownBlock = some k) w w' ∧
      ((Value.slice A' (L.length + N.length) c').ownBlock = v.ownBlock ∨ (Value.slice A' (L.length + N.length) c').ownBlock = some w.heap.size) := by
  obtain ⟨i, z, e1, e2, e3, e4, e5⟩ := info65
  obtain ⟨v', w', h1, h2, h3, _, h5⟩ := run_append_own_at (P := Tryd.prog) w 0 42 42 65 i z 3 32 Tryd.underlying42 e1 e2 e3 e4 e5 (by omega) v L.length (flatX L) hown ad N.length c (flatX N) (flatX_len N) hnews (flatX_one N) (by unfold maxLen; omega) (by omega) (by omega)
  obtain ⟨A', c', rfl⟩ := ownX_shape h2
  refine ⟨A', c', w', h1, by unfold OX; rw [List.length_append, flatX_append]; exact h2, ⟨h3.os, h3.tape, h3.output, h3.size, fun k hk hn => h3.block k hk (fun e => hn e.symm)⟩, h5⟩
section
variable {W W' : World} {v : Value} {L : List Wr} {M : Nat → Prop}
theorem ox_fr (h : OX W v L) (hf : Fr M W W') (hm : ∀ k, v.ownBlock = some k → ¬ M k) : OX W' v L := by
  rcases h.2 with ⟨e, h0⟩ | ⟨g', cap, cur, e, hb, hh, h1⟩
  · exact ⟨h.1, .inl ⟨e, h0⟩⟩
  · refine ⟨h.1, .inr ⟨g', cap, cur, e, hb, ?_, h1⟩⟩
    rw [hf.block g' (Array.getElem?_eq_some_iff.1 hh).1 (hm g' (by rw [e]; rfl))]
    exact hh
theorem ox_next (h : OX W v L) (hb : Below W.heap.size W W') : OX W' v L := ox_fr h (M := fun _ => False) (Fr.of_below hb) (fun _ _ x => x)
theorem ox_lt (h : OX W v L) : ∀ k, v.ownBlock = some k → k < W.heap.size := by
  intro k hk
  rcases h.2 with ⟨e, h0⟩ | ⟨g', cap, cur, e, hb, hh, h1⟩
  · rw [e] at hk; cases hk
  · rw [e] at hk
    cases hk
    exact (Array.getElem?_eq_some_iff.1 hh).1
theorem ox_ne (h : OX W v L) {q : Nat} {t : TypeId} {l : List Value} (hr : RowAt W q t l) (ht : t ≠ 65) : ∀ k, v.ownBlock = some k → k ≠ q := by
  intro k hk e
  subst e
  rcases h.2 with ⟨e, h0⟩ | ⟨g', cap, cur, e, hb, hh, h1⟩
  · rw [e] at hk; cases hk
  · rw [e] at hk
    cases hk
    unfold RowAt at hr
    rw [hr] at hh
    simp at hh
    exact ht hh.2
theorem ox_shape (h : OX W v L) : ∃ A c, v = .slice A L.length c ∧ L.length ≤ c ∧ c ≤ maxLen ∧ ∀ (i : Nat) (p : Wr), L[i]? = some p → ∃ g, A = some ⟨g, 0, none⟩ ∧ g < W.heap.size ∧ (i : Int) < (c : Int) ∧
    W.cell? ⟨g, i * 3, none⟩ = some (.int .i64 p.1) ∧ W.cell? ⟨g, i * 3 + 1, none⟩ = some (.int .i64 (p.2.1 : Int)) ∧ W.cell? ⟨g, i * 3 + 2, none⟩ = some (.string p.2.2) := by
  have h' := h
  rcases h.2 with ⟨rfl, h0⟩ | ⟨g, cap, cur, rfl, hb, hh, h1, h2, _⟩
  · refine ⟨none, 0, by rw [h0], by omega, by unfold maxLen; omega, fun i p hp => ?_⟩
    have := (List.getElem?_eq_some_iff.1 hp).1
    omega
  · refine ⟨_, _, rfl, h1, h2, fun i p hp => ?_⟩
    have hi := (List.getElem?_eq_some_iff.1 hp).1
    obtain ⟨e1, e2, e3⟩ := flatX_at L i p hp
    exact ⟨g, rfl, (Array.getElem?_eq_some_iff.1 hh).1, by omega, by rw [h'.cellAt (i * 3) (by omega), e1], by rw [h'.cellAt (i * 3 + 1) (by omega), e2], by rw [h'.cellAt (i * 3 + 2) (by omega), e3]⟩
theorem ox_nil (W : World) : OX W (.slice none 0 0) [] := World.ownsRow_nil _ _ _ _
end
/-- The document's buffer in memory: its block q, its row; all in S, which ends ahead of the heap's end. -/
structure Xf (W : World) (q : Nat) (L : List Wr) (S : Nat → Prop) : Prop where
  ex : ∃ v, RowAt W q 44 [v] ∧ OX W v L ∧ ∀ k, v.ownBlock = some k → S k
  sq : S q
  up : ∀ i, S i → i < W.heap.size
/-- What a call may do to it. -/
def XGo (w : World) (q : Nat) (S : Nat → Prop) (L' : List Wr) (w' : World) : Prop := ∃ S', Xf w' q L' S' ∧ Fr S w w' ∧ ∀ i, S' i → S i ∨ w.heap.size ≤ i
section
variable {W W' : World} {q : Nat} {L : List Wr} {S S' M : Nat → Prop}
theorem Xf.lt (h : Xf W q L S) : q < W.heap.size := h.up q h.sq
theorem Xf.fr (h : Xf W q L S) (hf : Fr M W W') (hm : ∀ i, M i → S i → False) : Xf W' q L S := by
  obtain ⟨⟨v, h1, h2, h3⟩, h4, h5⟩ := h
  exact ⟨⟨v, h1.fr hf (fun x => hm q x h4), ox_fr h2 hf (fun k hk x => hm k x (h3 k hk)), h3⟩, h4, fun i hi => Nat.lt_of_lt_of_le (h5 i hi) hf.size⟩
theorem Xf.next (h : Xf W q L S) (hb : Below W.heap.size W W') : Xf W' q L S := h.fr (M := fun _ => False) (Fr.of_below hb) (fun _ x _ => x.elim)
end
def totW (L : List Wr) (j : Nat) : Int := (tot (L.take j) : Int)
theorem tot_take (L : List Wr) (j : Nat) (p : Wr) (h : L[j]? = some p) : tot (L.take (j + 1)) = tot (L.take j) + p.2.2.size := by
  rw [List.take_add_one, h]
  simp [tot]
theorem tot_le (L : List Wr) (j : Nat) : tot (L.take j) ≤ tot L := by
  have h := List.take_append_drop j L
  have : tot L = tot (L.take j) + tot (L.drop j) := by rw [← tot_append, h]
  omega
theorem rheld_any (w : World) (q : Nat) (L : List Wr) (S : Nat → Prop) (h : Xf w q L S) (hok : Ok L) :
    Calls Tryd.prog 35 #[.pointer (some ⟨q, 0, none⟩)] w fun e w' => e = .returned (.int .i64 (tot L : Int)) ∧ Below w.heap.size w w' := by
  obtain ⟨⟨v, hr, ho, _⟩, _, _⟩ := h
  have c0 := hr.cell 0
  simp only [List.getElem?_cons_zero] at c0
  obtain ⟨A, c, rfl, hc1, hc2, hat⟩ := ox_shape ho
  have hlen := hok.len
  have HAT := Lib.hid hat
  have HTOP := Lib.hid hok.top
  clear hat ho hr hok
  generalize hL : L.length = m at *
  have HM := Lib.hid hL
  clear hL
  go_enter Tryd.func35, Tryd.ntmps35
  go_wp2_with fail
  go_loopw [3, 4] (fun s i wr => ∃ j : Nat, j ≤ m ∧ i = .int .i64 j ∧ s = .int .i64 (tot (L.take j) : Int) ∧ wr = w) (fun _ i _ => m - (intOf i).toNat)
  case atStart => exact ⟨0, by omega, rfl, by simp [tot], rfl⟩
  case round =>
    obtain ⟨j, hj, rfl, rfl, rfl⟩ := hrel
    by_cases hlt : j < m
    · obtain ⟨⟨k, a, t⟩, hp⟩ : ∃ p, L[j]? = some p := ⟨L[j]'(by rw [HM.out]; exact hlt), List.getElem?_eq_getElem _⟩
      obtain ⟨g, rfl, hgl, hcap, _, _, d3⟩ := HAT.out j _ hp
      simp only at d3
      have HT := Lib.hid (tot_take L j _ hp)
      have hle := tot_le L (j + 1)
      have ht := HT.out
      have htop := HTOP.out
      simp only at ht
      have e1 : IntKind.i64.wrap ((tot (L.take j) : Int) + (t.size : Int)) = (tot (L.take j) : Int) + (t.size : Int) := IntWalk.i64_in _ (by omega)
      have hlt' : (j : Int) < (m : Int) := by omega
      have j0 : (0 : Int) ≤ (j : Int) := by omega
      clear hp ht hle htop
      go_wp2_with fail
      go_roundw
      case rel => exact ⟨j + 1, by omega, by go_num, by rw [HT.out]; simp, by first | rfl | trivial⟩
      case measure => simp [intOf]; omega
    · obtain rfl : j = m := by omega
      have e : tot (L.take j) = tot L := by rw [List.take_of_length_le (by rw [HM.out]; exact Nat.le_refl _)]
      rw [e]
      go_wp2_with fail
      go_ret
      exact ⟨rfl, Below.refl _ _⟩
theorem sub_take (k : Int) (L : List Wr) (j : Nat) (p : Wr) (h : L[j]? = some p) : sub k (L.take (j + 1)) = sub k (L.take j) ++ (if p.1 = k then [p.2] else []) := by
  rw [List.take_add_one, h, sub_append]
  congr 1
  show sub k [p] = _
  rw [sub_cons]
  rfl
theorem sizeL_app (P Q : List Pt) (n : Int) : sizeL (P ++ Q) n = sizeL Q (sizeL P n) := by simp [sizeL]
attribute [local go_sem ↓] Go.wp_at_zero Go.wp_at_succ
set_option maxHeartbeats 2000000 in
theorem rsize_any (w : World) (q : Nat) (L : List Wr) (S : Nat → Prop) (h : Xf w q L S) (hok : Ok L) (k n : Int) :
    Calls Tryd.prog 37 #[.pointer (some ⟨q, 0, none⟩), .int .i64 k, .int .i64 n] w fun e w' => e = .returned (.int .i64 (sizeL (sub k L) n)) ∧ Below w.heap.size w w' := by
  obtain ⟨⟨v, hr, ho, _⟩, _, _⟩ := h
  have c0 := hr.cell 0
  simp only [List.getElem?_cons_zero] at c0
  have HR := Lib.hid hr
  obtain ⟨A, c, rfl, hc1, hc2, hat⟩ := ox_shape ho
  have hlen := hok.len
  have HAT := Lib.hid hat
  have HPT := Lib.hid hok.pt
  clear hat ho hr hok
  generalize hL : L.length = m at *
  have HM := Lib.hid hL
  clear hL
  go_enter Tryd.func37, Tryd.ntmps37
  go_wp2_with fail
  go_loopw [2, 7] (fun s i wr => ∃ j : Nat, j ≤ m ∧ i = .int .i64 j ∧ s = .int .i64 (sizeL (sub k (L.take j)) n) ∧ Below w.heap.size w wr) (fun _ i _ => m - (intOf i).toNat)
  case atStart => exact ⟨0, by omega, rfl, rfl, Below.refl _ _⟩
  case round =>
    obtain ⟨j, hj, rfl, rfl, hb⟩ := hrel
    have c0' := (HR.out.next hb).cell 0
    simp only [List.getElem?_cons_zero] at c0'
    clear c0
    by_cases hlt : j < m
    · obtain ⟨⟨k', a, t⟩, hp⟩ : ∃ p, L[j]? = some p := ⟨L[j]'(by rw [HM.out]; exact hlt), List.getElem?_eq_getElem _⟩
      obtain ⟨g, rfl, hgl, hcap, d1, d2, d3⟩ := HAT.out j _ hp
      simp only at d1 d2 d3
      have ht2 := (HPT.out _ (List.mem_of_getElem? hp)).2
      simp only at ht2
      have d1' := (hb.cell (p := ⟨g, j * 3, none⟩) hgl).trans d1
      have d2' := (hb.cell (p := ⟨g, j * 3 + 1, none⟩) hgl).trans d2
      have d3' := (hb.cell (p := ⟨g, j * 3 + 2, none⟩) hgl).trans d3
      have HT := Lib.hid (sub_take k L j _ hp)
      have e1 : IntKind.i64.wrap ((a : Int) + (t.size : Int)) = (a : Int) + (t.size : Int) := IntWalk.i64_in _ (by omega)
      have hlt' : (j : Int) < (m : Int) := by omega
      have j0 : (0 : Int) ≤ (j : Int) := by omega
      clear hp d1 d2 d3
      by_cases hk : k' = k
      · have hk' : (k' == k) = true := by simpa using hk
        go_wp2_with fail
        all_goals go_region_law fail
        all_goals go_wp2_with fail
        all_goals go_roundw
        all_goals first
          | exact ⟨j + 1, by omega, by go_num, by rw [HT.out, if_pos hk, sizeL_snoc]; exact congrArg (Value.int IntKind.i64) (max_if _ a t.size), hb.drew⟩
          | (simp [intOf]; omega)
      · have hk' : (k' == k) = false := by simpa using hk
        go_wp2_with fail
        all_goals go_roundw
        all_goals first
          | exact ⟨j + 1, by omega, by go_num, by rw [HT.out, if_neg hk, List.append_nil], hb⟩
          | (simp [intOf]; omega)
    · obtain rfl : j = m := by omega
      have e : L.take j = L := List.take_of_length_le (by rw [HM.out]; exact Nat.le_refl _)
      rw [e]
      go_wp2_with fail
      go_ret
      exact ⟨rfl, hb⟩
end Go.Proofs.YtkcebbidmlnmmaaDoor
