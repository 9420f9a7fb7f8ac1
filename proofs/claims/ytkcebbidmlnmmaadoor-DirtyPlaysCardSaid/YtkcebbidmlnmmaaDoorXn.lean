/- A step by both. -/
import Derived.Test.YtkcebbidmlnmmaaDoorXm
namespace Go.Proofs.YtkcebbidmlnmmaaDoor
open Go.RowKit
theorem sub_subX (k : Int) (L : List Wr) : sub k L = (subX k L).map (·.2) := rfl
/-- The program's row while it is compared and written over: from j on it is as it was. -/
def CmI (w : World) (g : Nat) (P : List Pt) (n : Nat) (i : Value) (W : World) : Prop :=
  ∃ j : Nat, j ≤ n ∧ i = .int .i64 j ∧ Fr (· = g) w W ∧ (P = [] → Below w.heap.size w W) ∧ (P ≠ [] → ∃ cs, W.heap[g]? = some (.cells cs 58 (0, 0)) ∧ P.length * 2 ≤ cs.size ∧ ∀ i p, j ≤ i → P[i]? = some p → cs[i * 2]? = some (.int .i64 (p.1 : Int)) ∧ cs[i * 2 + 1]? = some (.string p.2))
theorem cm_start {w : World} {P : List Pt} {g : Nat} {v : Value} (h : RowV w P g v) : P ≠ [] → ∃ cs, w.heap[g]? = some (.cells cs 58 (0, 0)) ∧ P.length * 2 ≤ cs.size ∧ ∀ i p, 0 ≤ i → P[i]? = some p → cs[i * 2]? = some (.int .i64 (p.1 : Int)) ∧ cs[i * 2 + 1]? = some (.string p.2) := by
  intro h0
  rcases h with ⟨e, _⟩ | ⟨_, h⟩
  · exact absurd e h0
  have hb := h.blk
  have hat := h.at
  rcases h.own.2 with ⟨e, h0'⟩ | ⟨g', cap, cur, e, hbb, hh, h1, h2, h3, h4⟩
  · rw [e] at hb; cases hb
  · rw [e] at hb
    cases hb
    refine ⟨cur, hh, by omega, fun i p _ hp => ?_⟩
    obtain ⟨a1, a2⟩ := hat i p hp
    simp only [World.cell?, hh] at a1 a2
    exact ⟨by simpa using a1, by simpa using a2⟩
set_option maxHeartbeats 4000000 in
set_option maxRecDepth 20000 in
theorem do_write (w : World) (p q : Nat) (L : List Wr) (S : Nat → Prop) (h : Pr w p q L S) (k a : Int) (t : ByteArray) (ht : t.size ≤ 100000) :
    Calls Tryd.prog 19 #[.agg #[.int .u8 0, .int .i64 k, .int .i64 a, .string t], .pointer (some ⟨p, 0, none⟩), .pointer (some ⟨q, 0, none⟩)] w fun e w' => e = .returned (.bool true) ∧ PGo w p q S (writeL L k a t) w' := by
  have hal : Below w.heap.size w (w.alloc (.cells #[.int .u8 0, .int .i64 k, .int .i64 a, .string t] 32)) := bA (Below.refl _ _) _
  have HW := Lib.hid (h.next hal)
  have HB := Lib.hid hal
  have HU := Lib.hid h.up
  have HR : Hid (RowAt (w.alloc (.cells #[.int .u8 0, .int .i64 k, .int .i64 a, .string t] 32)) w.heap.size 32 [.int .u8 0, .int .i64 k, .int .i64 a, .string t]) := Lib.hid (RowAt.new w 32 [.int .u8 0, .int .i64 k, .int .i64 a, .string t])
  have d1 : (w.alloc (.cells #[.int .u8 0, .int .i64 k, .int .i64 a, .string t] 32)).cell? ⟨w.heap.size, 1, none⟩ = some (.int .i64 k) := HR.out.cell 1
  have d2 : (w.alloc (.cells #[.int .u8 0, .int .i64 k, .int .i64 a, .string t] 32)).cell? ⟨w.heap.size, 2, none⟩ = some (.int .i64 a) := HR.out.cell 2
  have d3 : (w.alloc (.cells #[.int .u8 0, .int .i64 k, .int .i64 a, .string t] 32)).cell? ⟨w.heap.size, 3, none⟩ = some (.string t) := HR.out.cell 3
  have HOK := Lib.hid h.ok
  clear h hal
  go_enter Tryd.func19, Tryd.ntmps19
  go_wp2_with fail
  generalize w.alloc (.cells #[.int .u8 0, .int .i64 k, .int .i64 a, .string t] 32) = w1 at *
  obtain ⟨x, hx⟩ : ∃ x, x = w.heap.size := ⟨_, rfl⟩
  rw [← hx] at HR d1 d2 d3 ⊢
  have HNX : Hid (¬ S x) := Lib.hid (fun hs => by have := HU.out x hs; omega)
  clear hx
  have HWd := Lib.hid (HW.out.next ((Below.refl _ _).drew))
  have HRd := Lib.hid (HR.out.next ((Below.refl _ _).drew))
  go_region_held3 (fun w' => w'.cell? ⟨x, 1, none⟩ = some (.int .i64 k) ∧ w'.cell? ⟨x, 2, none⟩ = some (.int .i64 a) ∧ w'.cell? ⟨x, 3, none⟩ = some (.string t))
    ((first
      | go_keep
      | exact ⟨(HRd.out.fr hd.choose_spec.choose_spec.2.2.2.2.2.1 HNX.out).cell 1, (HRd.out.fr hd.choose_spec.choose_spec.2.2.2.2.2.1 HNX.out).cell 2, (HRd.out.fr hd.choose_spec.choose_spec.2.2.2.2.2.1 HNX.out).cell 3⟩
      | exact ⟨(HRd.out.fr hg.choose_spec.2.1 HNX.out).cell 1, (HRd.out.fr hg.choose_spec.2.1 HNX.out).cell 2, (HRd.out.fr hg.choose_spec.2.1 HNX.out).cell 3⟩))
    ((first
      | (go_at_call 14; refine (write_pr _ p q L S HWd.out k a t).mono ?_; rintro e w2 ⟨rfl, hd⟩)
      | (go_at_call 31; refine (rwrite_pr _ _ p q L S k a t hd HOK.out ht).mono ?_; rintro e w3 ⟨rfl, hg⟩)))
  have HP : Hid (PGo w p q S (writeL L k a t) w3) := Lib.hid (by
    obtain ⟨S', h1, h2, h3⟩ := hg
    exact ⟨S', h1, (Fr.of_below HB.out.drew).trans h2, fun i x => (h3 i x).imp id (fun e => Nat.le_trans HB.out.size e)⟩)
  clear hd hg d1 d2 d3
  have hE : (writeE L k a t == writeE L k a t) = true := by simp
  go_wp2_with fail
  all_goals refine bodyPost_ret (by simp [results, Tryd.results19, go_sem]; rfl) rfl ?_
  all_goals exact ⟨rfl, HP.out⟩
set_option maxHeartbeats 4000000 in
set_option maxRecDepth 20000 in
theorem do_cut (w : World) (p q : Nat) (L : List Wr) (S : Nat → Prop) (h : Pr w p q L S) (k a : Int) (t : ByteArray) (ha : a ≤ 9223372036854775807) :
    Calls Tryd.prog 19 #[.agg #[.int .u8 1, .int .i64 k, .int .i64 a, .string t], .pointer (some ⟨p, 0, none⟩), .pointer (some ⟨q, 0, none⟩)] w fun e w' => e = .returned (.bool true) ∧ PGo w p q S (cutA L k a) w' := by
  have hal : Below w.heap.size w (w.alloc (.cells #[.int .u8 1, .int .i64 k, .int .i64 a, .string t] 32)) := bA (Below.refl _ _) _
  have HW := Lib.hid (h.next hal)
  have HB := Lib.hid hal
  have HU := Lib.hid h.up
  have HR : Hid (RowAt (w.alloc (.cells #[.int .u8 1, .int .i64 k, .int .i64 a, .string t] 32)) w.heap.size 32 [.int .u8 1, .int .i64 k, .int .i64 a, .string t]) := Lib.hid (RowAt.new w 32 [.int .u8 1, .int .i64 k, .int .i64 a, .string t])
  have d1 : (w.alloc (.cells #[.int .u8 1, .int .i64 k, .int .i64 a, .string t] 32)).cell? ⟨w.heap.size, 1, none⟩ = some (.int .i64 k) := HR.out.cell 1
  have d2 : (w.alloc (.cells #[.int .u8 1, .int .i64 k, .int .i64 a, .string t] 32)).cell? ⟨w.heap.size, 2, none⟩ = some (.int .i64 a) := HR.out.cell 2
  have HOK := Lib.hid h.ok
  obtain ⟨E, hE⟩ : ∃ E : Int, (if a < 0 then (1 : Int) else 0) = E := ⟨_, rfl⟩
  have HC1 : Hid (∀ W, Pr W p q L S → Calls Tryd.prog 21 #[.pointer (some ⟨p, 0, none⟩), .int .i64 k, .int .i64 a] W fun e w' => e = .returned (.int .i64 E) ∧ Md W p q L (cutA L k a) S w') := Lib.hid (fun W hW => by
    have h := cut_pr W p q L S hW k a ha
    rw [hE] at h
    exact h)
  have HC2 : Hid (∀ W w1, Md W p q L (cutA L k a) S w1 → Calls Tryd.prog 32 #[.pointer (some ⟨q, 0, none⟩), .int .i64 k, .int .i64 a] w1 fun e w' => e = .returned (.int .i64 E) ∧ PGo W p q S (cutA L k a) w') := Lib.hid (fun W w1 hW => by
    have h := rcut_pr W w1 p q L S k a hW HOK.out ha
    rw [hE] at h
    exact h)
  clear hE ha
  clear h hal
  go_enter Tryd.func19, Tryd.ntmps19
  go_wp2_with fail
  generalize w.alloc (.cells #[.int .u8 1, .int .i64 k, .int .i64 a, .string t] 32) = w1 at *
  obtain ⟨x, hx⟩ : ∃ x, x = w.heap.size := ⟨_, rfl⟩
  rw [← hx] at HR d1 d2 ⊢
  have HNX : Hid (¬ S x) := Lib.hid (fun hs => by have := HU.out x hs; omega)
  clear hx
  have HWd := Lib.hid (HW.out.next ((Below.refl _ _).drew))
  have HRd := Lib.hid (HR.out.next ((Below.refl _ _).drew))
  go_region_held3 (fun w' => w'.cell? ⟨x, 1, none⟩ = some (.int .i64 k) ∧ w'.cell? ⟨x, 2, none⟩ = some (.int .i64 a))
    ((first
      | go_keep
      | exact ⟨(HRd.out.fr hd.choose_spec.choose_spec.2.2.2.2.2.1 HNX.out).cell 1, (HRd.out.fr hd.choose_spec.choose_spec.2.2.2.2.2.1 HNX.out).cell 2⟩
      | exact ⟨(HRd.out.fr hg.choose_spec.2.1 HNX.out).cell 1, (HRd.out.fr hg.choose_spec.2.1 HNX.out).cell 2⟩))
    ((first
      | (go_at_call 21; refine (HC1.out _ HWd.out).mono ?_; rintro e w2 ⟨rfl, hd⟩)
      | (go_at_call 32; refine (HC2.out _ _ hd).mono ?_; rintro e w3 ⟨rfl, hg⟩)))
  have HP : Hid (PGo w p q S (cutA L k a) w3) := Lib.hid (by
    obtain ⟨S', h1, h2, h3⟩ := hg
    exact ⟨S', h1, (Fr.of_below HB.out.drew).trans h2, fun i x => (h3 i x).imp id (fun e => Nat.le_trans HB.out.size e)⟩)
  clear hd hg d1 d2
  have hE : (E == E) = true := by simp
  go_wp2_with fail
  all_goals refine bodyPost_ret (by simp [results, Tryd.results19, go_sem]; rfl) rfl ?_
  all_goals exact ⟨rfl, HP.out⟩
theorem cm_step {w W : World} {g : Nat} {P : List Pt} {n j : Nat} {cs : Array Value} (hj : j < n) (hn : P.length = n) (hf : Fr (· = g) w W) (hg : W.heap[g]? = some (.cells cs 58 (0, 0))) (hs : P.length * 2 ≤ cs.size)
    (ha : ∀ i p, j ≤ i → P[i]? = some p → cs[i * 2]? = some (.int .i64 (p.1 : Int)) ∧ cs[i * 2 + 1]? = some (.string p.2)) (u v : Value) :
    CmI w g P n (.int .i64 ((j + 1 : Nat) : Int)) ((W.setCell ⟨g, j * 2, none⟩ u).setCell ⟨g, j * 2 + 1, none⟩ v) := by
  refine ⟨j + 1, by omega, rfl, (hf.setCell rfl u).setCell rfl v, fun e => ?_, fun _ => ⟨(cs.setIfInBounds (j * 2) u).setIfInBounds (j * 2 + 1) v, ?_, by simpa using hs, fun i p hi hp => ?_⟩⟩
  · rw [e] at hn; simp at hn; omega
  · simp only [World.setCell, Array.getElem?_modify, hg]
    simp
  · obtain ⟨a1, a2⟩ := ha i p (by omega) hp
    rw [Array.getElem?_setIfInBounds, Array.getElem?_setIfInBounds, Array.getElem?_setIfInBounds, Array.getElem?_setIfInBounds, if_neg (by omega), if_neg (by omega), if_neg (by omega), if_neg (by omega)]
    exact ⟨a1, a2⟩
set_option maxHeartbeats 4000000 in
set_option maxRecDepth 20000 in
theorem do_take (w : World) (p q : Nat) (L : List Wr) (S : Nat → Prop) (h : Pr w p q L S) (kd : Nat) (k a : Int) (t : ByteArray) (h0 : kd ≠ 0) (h1 : kd ≠ 1) :
    Calls Tryd.prog 19 #[.agg #[.int .u8 kd, .int .i64 k, .int .i64 a, .string t], .pointer (some ⟨p, 0, none⟩), .pointer (some ⟨q, 0, none⟩)] w fun e w' => e = .returned (.bool true) ∧ PGo w p q S (outL k L) w' := by
  have hal : Below w.heap.size w (w.alloc (.cells #[.int .u8 kd, .int .i64 k, .int .i64 a, .string t] 32)) := bA (Below.refl _ _) _
  have HW := Lib.hid (h.next hal)
  have HB := Lib.hid hal
  have HU := Lib.hid h.up
  have HR : Hid (RowAt (w.alloc (.cells #[.int .u8 kd, .int .i64 k, .int .i64 a, .string t] 32)) w.heap.size 32 [.int .u8 kd, .int .i64 k, .int .i64 a, .string t]) := Lib.hid (RowAt.new w 32 [.int .u8 kd, .int .i64 k, .int .i64 a, .string t])
  have d1 : (w.alloc (.cells #[.int .u8 kd, .int .i64 k, .int .i64 a, .string t] 32)).cell? ⟨w.heap.size, 1, none⟩ = some (.int .i64 k) := HR.out.cell 1
  have HOK := Lib.hid h.ok
  have g0 : ((kd : Int) == 0) = false := by simp; omega
  have g1 : ((kd : Int) == 1) = false := by simp; omega
  clear h hal h0 h1
  go_enter Tryd.func19, Tryd.ntmps19
  go_wp2_with fail
  clear g0 g1
  generalize w.alloc (.cells #[.int .u8 kd, .int .i64 k, .int .i64 a, .string t] 32) = w1 at *
  obtain ⟨x, hx⟩ : ∃ x, x = w.heap.size := ⟨_, rfl⟩
  rw [← hx] at HR d1 ⊢
  have HNX : Hid (¬ S x) := Lib.hid (fun hs => by have := HU.out x hs; omega)
  clear hx
  have HWd := Lib.hid (HW.out.next ((Below.refl _ _).drew))
  have HRd := Lib.hid (HR.out.next ((Below.refl _ _).drew))
  go_region_held3 (fun w' => w'.cell? ⟨x, 1, none⟩ = some (.int .i64 k))
    ((first
      | go_keep
      | exact (HRd.out.fr hd.choose_spec.choose_spec.2.2.2.2.2.1 HNX.out).cell 1
      | exact (HRd.out.fr hg.2.2.choose_spec.2.1 HNX.out).cell 1))
    ((first
      | (go_at_call 22; refine (take_pr _ p q L S HWd.out k).mono ?_; rintro e w2 ⟨v, g, rfl, hv, hgn, hd⟩)
      | (go_at_call 33; refine (rtake_pr _ _ p q L S k hd HOK.out v g hv hgn).mono ?_; rintro e w3 ⟨u, rfl, hg⟩)))
  obtain ⟨ho, hv3, S', q1, q2, q3, q4⟩ := hg
  have HP : Hid (Pr w3 p q (outL k L) S' ∧ Fr S w w3 ∧ (∀ i, S' i → S i ∨ w.heap.size ≤ i) ∧ (sub k L ≠ [] → ¬ S' g) ∧ w.heap.size ≤ g) := Lib.hid
    ⟨q1, (Fr.of_below HB.out.drew).trans q2, fun i x => (q3 i x).imp id (fun e => Nat.le_trans HB.out.size e), q4, Nat.le_trans HB.out.size hgn⟩
  have HST := Lib.hid (cm_start hv3)
  obtain ⟨A, c, rfl, hat⟩ := hv3.shape
  have HAT : Hid (∀ (i : Nat) (p : Pt), (sub k L)[i]? = some p → A = some ⟨g, 0, none⟩ ∧ (i : Int) < (c : Int)) := Lib.hid (fun i p hp => ⟨(hat i p hp).1, (hat i p hp).2.2.1⟩)
  obtain ⟨A2, c2, rfl, _, _, hat2⟩ := ox_shape ho
  have HN : Hid (∀ b, (Value.slice A2 (subX k L).length c2).ownBlock = some b → sub k L ≠ [] → b ≠ g) := Lib.hid (fun b hb hne e => by
    obtain ⟨cs, hcs, _⟩ := HST.out hne
    rcases ho.2 with ⟨e2, _⟩ | ⟨gg, cap, cur, e2, _, hh, _⟩
    · rw [e2] at hb; cases hb
    · rw [e2] at hb
      cases hb
      have e3 : gg = g := e
      rw [e3, hcs] at hh
      simp at hh)
  have HAT2 := Lib.hid hat2
  have HLN : Hid ((subX k L).length = (sub k L).length) := Lib.hid (by rw [sub_subX, List.length_map])
  have hlen : (sub k L).length ≤ 65536 := HOK.out.sublen k
  clear ho hv3 q1 q2 q3 q4 hat hat2 hv hgn hd d1
  have hln : (subX k L).length = (sub k L).length := HLN.out
  rw [hln]
  clear hln
  generalize hP : sub k L = P at *
  have HPE := Lib.hid hP
  clear hP
  generalize hn : P.length = n at *
  have HNN := Lib.hid hn
  clear hn
  go_wp2_with fail
  go_loopw [9] (fun i wr => CmI w3 g P n i wr) (fun i _ => n - (intOf i).toNat)
  case atStart => exact ⟨0, by omega, rfl, Fr.refl _ _, fun _ => Below.refl _ _, by rw [HNN.out]; exact HST.out⟩
  case round =>
    obtain ⟨j, hj, rfl, hf, he, hc⟩ := hrel
    by_cases hlt : j < n
    · obtain ⟨⟨a', t'⟩, hp⟩ : ∃ p, P[j]? = some p := ⟨P[j]'(by rw [HNN.out]; exact hlt), List.getElem?_eq_getElem _⟩
      have hPn : P ≠ [] := fun e => by rw [e] at hp; simp at hp
      obtain ⟨rfl, hjc⟩ := HAT.out j _ hp
      obtain ⟨cs, hcs, hsz, hat⟩ := hc hPn
      obtain ⟨x1, x2⟩ := hat j _ (Nat.le_refl _) hp
      simp only at x1 x2
      obtain ⟨⟨k', a2, t2⟩, hp2⟩ : ∃ p, (subX k L)[j]? = some p := ⟨(subX k L)[j]'(by rw [HLN.out]; exact hlt), List.getElem?_eq_getElem _⟩
      have e12 : (a2, t2) = (a', t') := by
        have : (sub k L)[j]? = some (a2, t2) := by rw [sub_subX, List.getElem?_map, hp2]; rfl
        rw [HPE.out, hp] at this
        exact (Option.some.inj this).symm
      cases e12
      obtain ⟨gm, rfl, hgm, hjc2, _, y1, y2⟩ := HAT2.out j _ hp2
      simp only at y1 y2
      have hgne : gm ≠ g := HN.out gm rfl hPn
      have z1 : wr.cell? ⟨gm, j * 3 + 1, none⟩ = some (.int .i64 (a' : Int)) := by rw [← y1]; unfold World.cell?; rw [hf.block gm hgm hgne]
      have z2 : wr.cell? ⟨gm, j * 3 + 2, none⟩ = some (.string t') := by rw [← y2]; unfold World.cell?; rw [hf.block gm hgm hgne]
      have v1 : wr.cell? ⟨g, j * 2, none⟩ = some (.int .i64 (a' : Int)) := by simp [World.cell?, hcs, x1]
      have v2 : wr.cell? ⟨g, j * 2 + 1, none⟩ = some (.string t') := by simp [World.cell?, hcs, x2]
      have hgl : g < wr.heap.size := (Array.getElem?_eq_some_iff.1 hcs).1
      have hgml : gm < wr.heap.size := Nat.lt_of_lt_of_le hgm hf.size
      have HCS := Lib.hid hcs
      have HF := Lib.hid hf
      have HSZ := Lib.hid hsz
      have HATC := Lib.hid hat
      have hlt' : (j : Int) < (n : Int) := by omega
      have j0 : (0 : Int) ≤ (j : Int) := by omega
      clear hp hp2 y1 y2 hcs hf hsz hat x1 x2 he hc hPn
      go_wp2_with fail
      refine wp_region_parts (by kernel_rfl) (by kernel_rfl) ?_
      have hb0 : Below wr.heap.size wr wr.drew := (Below.refl _ _).drew
      generalize wr.drew = V at *
      apply regL_lq V.heap.size
      intro D hD hn
      have p1 := fun z : Bd V.heap.size V D => ((bt hb0 z.ok).cell (p := ⟨g, j * 2, none⟩) hgl).trans v1
      have p2 := fun z : Bd V.heap.size V D => ((bt hb0 z.ok).cell (p := ⟨g, j * 2 + 1, none⟩) hgl).trans v2
      have p3 := fun z : Bd V.heap.size V D => ((bt hb0 z.ok).cell (p := ⟨gm, j * 3 + 1, none⟩) hgml).trans z1
      have p4 := fun z : Bd V.heap.size V D => ((bt hb0 z.ok).cell (p := ⟨gm, j * 3 + 2, none⟩) hgml).trans z2
      repeat (first | (apply wpLQ_skip rfl; simp only [Act.put, List.setIfInBounds_toArray, List.set_cons_succ, List.set_cons_zero]) | (apply wpLQ_pin rfl rfl; intro K hK; go_big_quiet_op; (first | go_big_quiet_on | fail); apply And.intro rfl))
      apply wpLQ_nil (by simp)
      intro W1 hb1 _
      have hb2 := bt hb0 hb1
      have v1' : W1.cell? ⟨g, j * 2, none⟩ = some (.int .i64 (a' : Int)) := (hb2.cell (p := ⟨g, j * 2, none⟩) hgl).trans v1
      have v2' : W1.cell? ⟨g, j * 2 + 1, none⟩ = some (.string t') := (hb2.cell (p := ⟨g, j * 2 + 1, none⟩) hgl).trans v2
      have hcs1 : W1.heap[g]? = some (.cells cs 58 (0, 0)) := by rw [hb2.block g hgl]; exact HCS.out
      have f1 : W1.frozen? ⟨g, j * 2, none⟩ = false := by simp [World.frozen?, hcs1]
      have f2 : W1.frozen? ⟨g, j * 2 + 1, none⟩ = false := by simp [World.frozen?, hcs1]
      have HST2 := Lib.hid (cm_step (w := w3) (W := W1) hlt HNN.out (HF.out.trans (Fr.of_below hb2)) hcs1 HSZ.out HATC.out (.int .i64 (-7)) (.string ⟨#[]⟩))
      clear p1 p2 p3 p4 hn hD hb1 hb0 v1 v2 z1 z2 hb2 hcs1 hgl hgml hgm hgne
      go_wp2_with fail
      go_roundw
      case rel => exact HST2.out
      case measure => simp [intOf]; omega
    · obtain rfl : j = n := by omega
      have HG : Hid (PGo w p q S (outL k L) wr) := Lib.hid (by
        obtain ⟨a1, a2, a3, a4, a5⟩ := HP.out
        by_cases hPn : P = []
        · have hb := he hPn
          exact ⟨S', a1.next hb, a2.trans (Fr.of_below hb), a3⟩
        · exact ⟨fun i => S' i, a1.fr hf (fun i e x => by rw [e] at x; exact a4 hPn x), by
            refine ⟨hf.os.trans a2.os, hf.tape.trans a2.tape, hf.output.trans a2.output, Nat.le_trans a2.size hf.size, fun i hi hn => ?_⟩
            rw [hf.block i (Nat.lt_of_lt_of_le hi a2.size) (fun e => by omega)]
            exact a2.block i hi hn, a3⟩)
      clear hf he hc
      go_wp2_with fail
      all_goals refine bodyPost_ret (by simp [results, Tryd.results19, go_sem]; rfl) rfl ?_
      all_goals exact ⟨rfl, HG.out⟩
end Go.Proofs.YtkcebbidmlnmmaaDoor
