/- detach and attach, of rows. -/
import Derived.Test.YtefjpljjdjecjaaWb
namespace Go.Proofs.Ytefjpljjdjecjaa
open Go.RowKit
set_option maxHeartbeats 4000000 in
theorem attach_n (w : World) (cb xb : Nat) (key d a1 a3 a4 : Value) (r : Nat) (hr : r < 4) (C : List Value) (z : Int) (hz0 : 0 ≤ z) (hz1 : z ≤ 100000)
    (hC : RowAt w cb 69 C) (hCz : C[r * 3 + 2]? = some (.int .i64 z)) (v0 : Value) (hC0 : C[r * 3]? = some v0) (hC1 : C[r * 3 + 1]? = some (ptr none))
    (hX : RowAt w xb 73 [key, a1, d, a3, a4]) (hxc : xb ≠ cb) :
    Calls Try.prog 33 #[.pointer (some ⟨cb, 0, none⟩), .int .i64 r, .pointer (some ⟨xb, 0, none⟩)] w fun e w' => e = .returned (.tuple #[]) ∧ Fr (DM cb xb none none) w w' ∧
      RowAt w' xb 73 [key, .int .i64 r, d, ptr none, ptr none] ∧ RowAt w' cb 69 (((C.set (r * 3) (ptr (some xb))).set (r * 3 + 1) (ptr (some xb))).set (r * 3 + 2) (.int .i64 (z + 1))) := by
  have c0 := (hC.cell (r * 3)).trans hC0
  have c1 := (hC.cell (r * 3 + 1)).trans hC1
  have c2 := (hC.cell (r * 3 + 2)).trans hCz
  clear hCz hC0 hC1
  have f0 := hC.free (r * 3)
  have f1 := hC.free (r * 3 + 1)
  have f2 := hC.free (r * 3 + 2)
  have x1 := hX.cell 1
  have x3 := hX.cell 3
  have x4 := hX.cell 4
  have g1 := hX.free 1
  have g3 := hX.free 3
  have g4 := hX.free 4
  simp [ptr] at x1 x3 x4 c1
  have hcx : cb ≠ xb := Ne.symm hxc
  have r0 : (0 : Int) ≤ (r : Int) := by omega
  have r1 : (r : Int) < 4 := by omega
  go_enter Try.func33, Try.ntmps33
  go_wp2
  go_end0
  refine ⟨rfl, ?_, ?_, ?_⟩
  · exact ((((((Fr.refl _ _).setCell (b := xb) (i := 1) (.inr (.inl rfl)) _).setCell (b := xb) (i := 3) (.inr (.inl rfl)) _).setCell (b := xb) (i := 4) (.inr (.inl rfl)) _).setCell (b := cb) (i := r * 3) (.inl rfl) _).setCell (b := cb) (i := r * 3 + 1) (.inl rfl) _).setCell (b := cb) (i := r * 3 + 2) (.inl rfl) _
  · exact (((((hX.set 1 _).set 3 _).set 4 _).other _ _ hxc).other _ _ hxc).other _ _ hxc
  · exact (((((hC.other _ _ hcx).other _ _ hcx).other _ _ hcx).set _ _).set _ _).set _ _
set_option maxHeartbeats 4000000 in
theorem attach_s (w : World) (cb xb q : Nat) (key d a1 a3 a4 : Value) (r : Nat) (hr : r < 4) (C : List Value) (z : Int) (hz0 : 0 ≤ z) (hz1 : z ≤ 100000)
    (hC : RowAt w cb 69 C) (hCz : C[r * 3 + 2]? = some (.int .i64 z)) (hC1 : C[r * 3 + 1]? = some (ptr (some q)))
    (q0 q1 q2 q3 q4 : Value) (hQ : RowAt w q 73 [q0, q1, q2, q3, q4]) (hqx : q ≠ xb) (hqc : q ≠ cb)
    (hX : RowAt w xb 73 [key, a1, d, a3, a4]) (hxc : xb ≠ cb) :
    Calls Try.prog 33 #[.pointer (some ⟨cb, 0, none⟩), .int .i64 r, .pointer (some ⟨xb, 0, none⟩)] w fun e w' => e = .returned (.tuple #[]) ∧ Fr (DM cb xb (some q) none) w w' ∧
      RowAt w' xb 73 [key, .int .i64 r, d, ptr (some q), ptr none] ∧ RowAt w' cb 69 ((C.set (r * 3 + 1) (ptr (some xb))).set (r * 3 + 2) (.int .i64 (z + 1))) ∧ RowAt w' q 73 [q0, q1, q2, q3, ptr (some xb)] := by
  have c1 := (hC.cell (r * 3 + 1)).trans hC1
  have c2 := (hC.cell (r * 3 + 2)).trans hCz
  clear hCz hC1
  have f1 := hC.free (r * 3 + 1)
  have f2 := hC.free (r * 3 + 2)
  have x1 := hX.cell 1
  have x3 := hX.cell 3
  have x4 := hX.cell 4
  have g1 := hX.free 1
  have g3 := hX.free 3
  have g4 := hX.free 4
  have y4 := hQ.cell 4
  have k4 := hQ.free 4
  simp [ptr] at x1 x3 x4 c1 y4
  have hcx : cb ≠ xb := Ne.symm hxc
  have hxq : xb ≠ q := Ne.symm hqx
  have hcq : cb ≠ q := Ne.symm hqc
  have r0 : (0 : Int) ≤ (r : Int) := by omega
  have r1 : (r : Int) < 4 := by omega
  go_enter Try.func33, Try.ntmps33
  go_wp2
  go_end0
  refine ⟨rfl, ?_, ?_, ?_, ?_⟩
  · exact ((((((Fr.refl _ _).setCell (b := xb) (i := 1) (.inr (.inl rfl)) _).setCell (b := xb) (i := 3) (.inr (.inl rfl)) _).setCell (b := xb) (i := 4) (.inr (.inl rfl)) _).setCell (b := q) (i := 4) (.inr (.inr (.inl rfl))) _).setCell (b := cb) (i := r * 3 + 1) (.inl rfl) _).setCell (b := cb) (i := r * 3 + 2) (.inl rfl) _
  · exact (((((hX.set 1 _).set 3 _).set 4 _).other _ _ hxq).other _ _ hxc).other _ _ hxc
  · exact (((((hC.other _ _ hcx).other _ _ hcx).other _ _ hcx).other _ _ hcq).set _ _).set _ _
  · exact (((((hQ.other _ _ hqx).other _ _ hqx).other _ _ hqx).set 4 _).other _ _ hqc).other _ _ hqc

theorem cells_at (R : Nat → List It) (m : Value) (room target : Int) (r : Nat) (hr : r < 4) : (cells R m room target)[r * 3]? = some (ptr (nx (R r) none)) ∧ (cells R m room target)[r * 3 + 1]? = some (ptr (lastB (R r) none)) ∧ (cells R m room target)[r * 3 + 2]? = some (.int .i64 (R r).length) := by
  match r, hr with
  | 0, _ => exact ⟨rfl, rfl, rfl⟩
  | 1, _ => exact ⟨rfl, rfl, rfl⟩
  | 2, _ => exact ⟨rfl, rfl, rfl⟩
  | 3, _ => exact ⟨rfl, rfl, rfl⟩
theorem set_same {l : List Value} {i : Nat} {v : Value} (h : l[i]? = some v) : l.set i v = l := by
  obtain ⟨hi, e⟩ := List.getElem?_eq_some_iff.1 h
  rw [← e]; exact List.set_getElem_self ..
theorem upd_same (R : Nat → List It) (r : Nat) (L : List It) : upd R r L r = L := if_pos rfl
theorem upd_ne (R : Nat → List It) {r i : Nat} (L : List It) (h : i ≠ r) : upd R r L i = R i := if_neg h
theorem allI_sub {R : Nat → List It} {r : Nat} (hr : r < 4) {L : List It} (h : L.Sublist (R r)) : (allI (upd R r L)).Sublist (allI R) := by
  match r, hr with
  | 0, _ => exact (((h.append (.refl _)).append (.refl _)).append (.refl _))
  | 1, _ => exact ((((List.Sublist.refl _).append h).append (.refl _)).append (.refl _))
  | 2, _ => exact ((((List.Sublist.refl _).append (.refl _)).append h).append (.refl _))
  | 3, _ => exact ((((List.Sublist.refl _).append (.refl _)).append (.refl _)).append h)
theorem row_sub {R : Nat → List It} {r : Nat} (hr : r < 4) : (R r).Sublist (allI R) := by
  unfold allI
  match r, hr with
  | 0, _ => exact ((List.sublist_append_left _ _).trans (List.sublist_append_left _ _)).trans (List.sublist_append_left _ _)
  | 1, _ => exact ((List.sublist_append_right _ _).trans (List.sublist_append_left _ _)).trans (List.sublist_append_left _ _)
  | 2, _ => exact (List.sublist_append_right _ _).trans (List.sublist_append_left _ _)
  | 3, _ => exact List.sublist_append_right _ _
/-- Items of two rows have unlike blocks. -/
theorem RA.apart {w : World} {cb : Nat} {R : Nat → List It} {m : Value} {room target : Int} (h : RA w cb R m room target) {r s : Nat} (hr : r < 4) (hs : s < 4) (hrs : r ≠ s) {x y : It} (hx : x ∈ R r) (hy : y ∈ R s) : x.b ≠ y.b := by
  have nd := h.nd
  unfold allI at nd
  simp only [List.map_append, List.nodup_append, List.mem_append, List.mem_map] at nd
  obtain ⟨⟨⟨_, _, d01⟩, _, d2⟩, _, d3⟩ := nd
  intro e
  have d2' := fun a (ha : (∃ z, z ∈ R 0 ∧ z.b = a) ∨ ∃ z, z ∈ R 1 ∧ z.b = a) b hb => d2 a ha b hb
  match r, s, hr, hs with
  | 0, 0, _, _ => exact hrs rfl
  | 1, 1, _, _ => exact hrs rfl
  | 2, 2, _, _ => exact hrs rfl
  | 3, 3, _, _ => exact hrs rfl
  | 0, 1, _, _ => exact d01 _ ⟨x, hx, rfl⟩ _ ⟨y, hy, rfl⟩ e
  | 1, 0, _, _ => exact d01 _ ⟨y, hy, rfl⟩ _ ⟨x, hx, rfl⟩ e.symm
  | 0, 2, _, _ => exact d2' _ (.inl ⟨x, hx, rfl⟩) _ ⟨y, hy, rfl⟩ e
  | 1, 2, _, _ => exact d2' _ (.inr ⟨x, hx, rfl⟩) _ ⟨y, hy, rfl⟩ e
  | 2, 0, _, _ => exact d2' _ (.inl ⟨y, hy, rfl⟩) _ ⟨x, hx, rfl⟩ e.symm
  | 2, 1, _, _ => exact d2' _ (.inr ⟨y, hy, rfl⟩) _ ⟨x, hx, rfl⟩ e.symm
  | 0, 3, _, _ => exact d3 _ (.inl (.inl ⟨x, hx, rfl⟩)) _ ⟨y, hy, rfl⟩ e
  | 1, 3, _, _ => exact d3 _ (.inl (.inr ⟨x, hx, rfl⟩)) _ ⟨y, hy, rfl⟩ e
  | 2, 3, _, _ => exact d3 _ (.inr ⟨x, hx, rfl⟩) _ ⟨y, hy, rfl⟩ e
  | 3, 0, _, _ => exact d3 _ (.inl (.inl ⟨y, hy, rfl⟩)) _ ⟨x, hx, rfl⟩ e.symm
  | 3, 1, _, _ => exact d3 _ (.inl (.inr ⟨y, hy, rfl⟩)) _ ⟨x, hx, rfl⟩ e.symm
  | 3, 2, _, _ => exact d3 _ (.inr ⟨y, hy, rfl⟩) _ ⟨x, hx, rfl⟩ e.symm
theorem RA.nodup {w : World} {cb : Nat} {R : Nat → List It} {m : Value} {room target : Int} (h : RA w cb R m room target) {r : Nat} (hr : r < 4) : ((R r).map (·.b)).Nodup :=
  h.nd.sublist ((row_sub hr).map _)
def RM (cb : Nat) (L : List It) (k : Nat) : Prop := k = cb ∨ ∃ y ∈ L, y.b = k

/-- The rows behind a change of one row. -/
theorem RA.change {w w' : World} {cb : Nat} {R : Nat → List It} {m : Value} {room target : Int} (h : RA w cb R m room target) {r : Nat} (hr : r < 4) {L : List It} {M : Nat → Prop} (hf : Fr M w w') (hM : ∀ s x, s < 4 → s ≠ r → x ∈ R s → ¬ M x.b)
    (hrow : RowAt w' cb 69 (cells (upd R r L) m room target)) (hlk : Lk w' r none L none) (hnd : ((allI (upd R r L)).map (·.b)).Nodup) (hne : ∀ x ∈ L, x.b ≠ cb) (hlen : L.length ≤ 100000) : RA w' cb (upd R r L) m room target := by
  refine ⟨hrow, fun s hs => ?_, hnd, fun x hx => ?_, fun s hs => ?_⟩
  · by_cases e : s = r
    · subst e; rw [upd_same]; exact hlk
    · rw [upd_ne R L e]; exact (h.lk s hs).fr hf fun x hx => hM s x hs e hx
  · obtain ⟨s, hs, hx⟩ := mem_allI.1 hx
    by_cases e : s = r
    · subst e; rw [upd_same] at hx; exact hne x hx
    · rw [upd_ne R L e] at hx; exact h.ne x (mem_allI.2 ⟨s, hs, hx⟩)
  · by_cases e : s = r
    · subst e; rw [upd_same]; exact hlen
    · rw [upd_ne R L e]; exact h.len s hs
def DetPost (cb : Nat) (R : Nat → List It) (m : Value) (room target : Int) (r : Nat) (L1 : List It) (x : It) (L2 : List It) (w : World) (e : Ending) (w' : World) : Prop :=
  e = .returned (.tuple #[]) ∧ RA w' cb (upd R r (L1 ++ L2)) m room target ∧ RowAt w' x.b 73 (itCells x r none none) ∧ Fr (RM cb (R r)) w w'
theorem detach_any (w : World) (cb : Nat) (R : Nat → List It) (m : Value) (room target : Int) (h : RA w cb R m room target) (r : Nat) (hr : r < 4) (L1 : List It) (x : It) (L2 : List It) (hR : R r = L1 ++ x :: L2) :
    Calls Try.prog 32 #[.pointer (some ⟨cb, 0, none⟩), .pointer (some ⟨x.b, 0, none⟩)] w (DetPost cb R m room target r L1 x L2 w) := by
  obtain ⟨k0, k1, k2⟩ := cells_at R m room target r hr
  have hlk := h.lk r hr
  have hnd := h.nodup hr
  have hlen := h.len r hr
  rw [hR] at hlk hnd hlen k0 k1 k2
  have hx : x ∈ R r := by rw [hR]; simp
  have hxc : x.b ≠ cb := h.ne x (mem_allI.2 ⟨r, hr, hx⟩)
  rw [Lk_append] at hlk
  obtain ⟨l1, l2, l3⟩ := hlk
  have hsub : (L1 ++ L2).Sublist (R r) := by rw [hR]; exact (List.Sublist.refl _).append (List.sublist_cons_self ..)
  have hnd' : ((allI (upd R r (L1 ++ L2))).map (·.b)).Nodup := h.nd.sublist ((allI_sub hr hsub).map _)
  have hne' : ∀ y ∈ L1 ++ L2, y.b ≠ cb := fun y hy => h.ne y (mem_allI.2 ⟨r, hr, hsub.subset hy⟩)
  have hlen' : (L1 ++ L2).length ≤ 100000 := Nat.le_trans hsub.length_le (h.len r hr)
  have hlz : (((L1 ++ x :: L2).length : Nat) : Int) - 1 = ((L1 ++ L2).length : Nat) := by simp; omega
  -- what must be shown of the new world
  have close : ∀ (p n : Option Nat) (w' : World), p = lastB L1 none → n = nx L2 none → Fr (DM cb x.b p n) w w' → RowAt w' x.b 73 [.int .i64 x.key, .int .i64 r, ptr x.d, ptr none, ptr none] →
      RowAt w' cb 69 (cells (upd R r (L1 ++ L2)) m room target) → Lk w' r none L1 (nx L2 none) → Lk w' r (lastB L1 none) L2 none → (∀ k, (p = some k ∨ n = some k) → ∃ y ∈ R r, y.b = k) → DetPost cb R m room target r L1 x L2 w (.returned (.tuple #[])) w' := by
    intro p n w' _ _ hf hX hC hl1 hl2 hpn
    have hM : ∀ k, DM cb x.b p n k → RM cb (R r) k := by
      rintro k (rfl | rfl | hk)
      · exact .inl rfl
      · exact .inr ⟨x, hx, rfl⟩
      · exact .inr (hpn k hk)
    refine ⟨rfl, ?_, hX, hf.mono fun k _ hk => hM k hk⟩
    refine h.change hr hf ?_ hC (Lk_append.2 ⟨hl1, hl2⟩) hnd' hne' hlen'
    intro s y hs hsr hy hk
    rcases hM _ hk with e | ⟨z, hz, e⟩
    · exact h.ne y (mem_allI.2 ⟨s, hs, hy⟩) e
    · exact h.apart hr hs (Ne.symm hsr) hz hy e
  have hC := h.row
  have hz0 : (0 : Int) < ((L1 ++ x :: L2).length : Nat) := by simp; omega
  have hz1 : (((L1 ++ x :: L2).length : Nat) : Int) ≤ 100000 := by omega
  rcases List.eq_nil_or_concat L1 with rfl | ⟨A, y, rfl⟩
  · cases L2 with
    | nil =>
      refine (detach_nn w cb x.b _ _ r hr _ _ hz0 hz1 hC k2 _ _ k0 k1 l2 hxc).mono ?_
      rintro e w' ⟨rfl, hf, hX', hC'⟩
      refine close none none w' rfl rfl hf hX' ?_ trivial trivial (by rintro k (h | h) <;> cases h)
      rw [← cells_upd R m room target r hr, ← hlz]
      exact hC'
    | cons z B =>
      have hz : z ∈ R r := by rw [hR]; simp
      have n1 : z.b ≠ x.b := by
        intro e
        simp only [List.nil_append, List.map_cons, List.nodup_cons, List.mem_cons, not_or] at hnd
        exact hnd.1.1 e.symm
      refine (detach_ns w cb x.b _ _ r hr _ _ hz0 hz1 hC k2 _ _ k0 k1 z.b _ _ _ _ _ l3.1 n1 (h.ne z (mem_allI.2 ⟨r, hr, hz⟩)) l2 hxc).mono ?_
      rintro e w' ⟨⟨rfl, hf, hX', hC'⟩, hS'⟩
      refine close none (some z.b) w' rfl rfl hf hX' ?_ trivial ⟨hS', l3.2.fr hf ?_⟩ (by rintro k (h | h) <;> cases h; exact ⟨z, hz, rfl⟩)
      · rw [← cells_upd R m room target r hr, ← hlz]
        have hsame : (cells R m room target)[r * 3 + 1]? = some (ptr (lastB ([] ++ z :: B) none)) := k1
        rw [set_same (l := (cells R m room target).set (r * 3) _) (i := r * 3 + 1) ((List.getElem?_set_ne (by omega)).trans hsame)]
        exact hC'
      · intro u hu hm
        have hub : u ∈ R r := by rw [hR]; simp [hu]
        simp only [List.nil_append, List.map_cons, List.nodup_cons, List.mem_cons, not_or, List.mem_map] at hnd
        rcases hm with e | e | e | e
        · exact h.ne u (mem_allI.2 ⟨r, hr, hub⟩) e
        · exact hnd.1.2 ⟨u, hu, e⟩
        · cases e
        · exact hnd.2.1 ⟨u, hu, (Option.some.inj e).symm⟩
  · have hy : y ∈ R r := by rw [hR]; simp
    rw [List.concat_eq_append] at *
    rw [Lk_append] at l1
    obtain ⟨la, ly, _⟩ := l1
    simp only [List.append_assoc, List.cons_append, List.nil_append, List.map_append, List.map_cons, List.nodup_append, List.nodup_cons, List.mem_cons, List.mem_map, not_or, ne_eq] at hnd
    obtain ⟨_, ⟨⟨hyx, hyL⟩, hxL, hndL⟩, hA⟩ := hnd
    have hlast : lastB (A ++ [y]) none = some y.b := by rw [lastB_append]; rfl
    rw [hlast] at l2
    have haf : ∀ u ∈ A, u.b ≠ y.b ∧ u.b ≠ x.b ∧ ∀ v ∈ L2, u.b ≠ v.b := fun u hu =>
      ⟨hA _ ⟨u, hu, rfl⟩ _ (.inl rfl), hA _ ⟨u, hu, rfl⟩ _ (.inr (.inl rfl)), fun v hv => hA _ ⟨u, hu, rfl⟩ _ (.inr (.inr ⟨v, hv, rfl⟩))⟩
    have huA : ∀ u ∈ A, u ∈ R r := fun u hu => by rw [hR]; simp [hu]
    cases L2 with
    | nil =>
      refine (detach_sn w cb x.b _ _ r hr _ _ hz0 hz1 hC k2 _ _ k0 k1 y.b _ _ _ _ _ ly hyx (h.ne y (mem_allI.2 ⟨r, hr, hy⟩)) l2 hxc).mono ?_
      rintro e w' ⟨⟨rfl, hf, hX', hC'⟩, hQ'⟩
      refine close (some y.b) none w' hlast.symm rfl hf hX' ?_ (Lk_append.2 ⟨la.fr hf ?_, hQ', trivial⟩) trivial (by rintro k (h | h) <;> cases h; exact ⟨y, hy, rfl⟩)
      · rw [← cells_upd R m room target r hr, ← hlz]
        have hsame : (cells R m room target)[r * 3]? = some (ptr (nx (A ++ [y] ++ []) none)) := by rw [k0]; cases A <;> rfl
        rw [set_same hsame, List.append_nil, hlast]
        simpa using hC'
      · intro u hu hm
        rcases hm with e | e | e | e
        · exact h.ne u (mem_allI.2 ⟨r, hr, huA u hu⟩) e
        · exact (haf u hu).2.1 e
        · exact (haf u hu).1 (Option.some.inj e).symm
        · cases e
    | cons z B =>
      have hz : z ∈ R r := by rw [hR]; simp
      have n1 : z.b ≠ x.b := fun e => hxL ⟨z, List.mem_cons_self .., e⟩
      have n2 : y.b ≠ z.b := fun e => hyL ⟨z, List.mem_cons_self .., e.symm⟩
      refine (detach_ss w cb x.b _ _ r hr _ _ hz0 hz1 hC k2 _ _ k0 k1 y.b _ _ _ _ _ ly hyx (h.ne y (mem_allI.2 ⟨r, hr, hy⟩)) z.b _ _ _ _ _ l3.1 n1 (h.ne z (mem_allI.2 ⟨r, hr, hz⟩)) n2 l2 hxc).mono ?_
      rintro e w' ⟨⟨rfl, hf, hX', hC'⟩, hQ', hS'⟩
      refine close (some y.b) (some z.b) w' hlast.symm rfl hf hX' ?_ (Lk_append.2 ⟨la.fr hf ?_, hQ', trivial⟩) ?_ (by rintro k (h | h) <;> cases h; exact ⟨y, hy, rfl⟩; exact ⟨z, hz, rfl⟩)
      · rw [← cells_upd R m room target r hr, ← hlz]
        have hsame : (cells R m room target)[r * 3]? = some (ptr (nx (A ++ [y] ++ z :: B) none)) := by rw [k0]; cases A <;> rfl
        have hsame2 : (cells R m room target)[r * 3 + 1]? = some (ptr (lastB (A ++ [y] ++ z :: B) none)) := by
          rw [k1, lastB_append (A ++ [y]) (x :: z :: B), lastB_append (A ++ [y]) (z :: B)]; rfl
        rw [set_same hsame, set_same hsame2]
        exact hC'
      · intro u hu hm
        rcases hm with e | e | e | e
        · exact h.ne u (mem_allI.2 ⟨r, hr, huA u hu⟩) e
        · exact (haf u hu).2.1 e
        · exact (haf u hu).1 (Option.some.inj e).symm
        · exact (haf u hu).2.2 z (List.mem_cons_self ..) (Option.some.inj e).symm
      · rw [hlast]
        refine ⟨hS', l3.2.fr hf ?_⟩
        intro u hu hm
        have hub : u ∈ R r := by rw [hR]; simp [hu]
        rcases hm with e | e | e | e
        · exact h.ne u (mem_allI.2 ⟨r, hr, hub⟩) e
        · exact hxL ⟨u, List.mem_cons_of_mem _ hu, e⟩
        · exact hyL ⟨u, List.mem_cons_of_mem _ hu, (Option.some.inj e).symm⟩
        · simp only [List.map_cons, List.nodup_cons, List.mem_map] at hndL
          exact hndL.1 ⟨u, hu, (Option.some.inj e).symm⟩

theorem allI_snoc {R : Nat → List It} {r : Nat} (hr : r < 4) (x : It) : ((allI (upd R r (R r ++ [x]))).map (·.b)).Perm (x.b :: (allI R).map (·.b)) := by
  have e : (allI (upd R r (R r ++ [x]))).Perm (x :: allI R) := by
    unfold allI
    match r, hr with
    | 0, _ =>
      show (R 0 ++ [x] ++ R 1 ++ R 2 ++ R 3).Perm _
      simp only [List.append_assoc, List.singleton_append]
      exact List.perm_middle
    | 1, _ =>
      show (R 0 ++ (R 1 ++ [x]) ++ R 2 ++ R 3).Perm _
      have := List.perm_middle (a := x) (l₁ := R 0 ++ R 1) (l₂ := R 2 ++ R 3)
      simpa [List.append_assoc] using this
    | 2, _ =>
      show (R 0 ++ R 1 ++ (R 2 ++ [x]) ++ R 3).Perm _
      have := List.perm_middle (a := x) (l₁ := R 0 ++ R 1 ++ R 2) (l₂ := R 3)
      simpa [List.append_assoc] using this
    | 3, _ =>
      show (R 0 ++ R 1 ++ R 2 ++ (R 3 ++ [x])).Perm _
      have := List.perm_middle (a := x) (l₁ := R 0 ++ R 1 ++ R 2 ++ R 3) (l₂ := [])
      simpa [List.append_assoc] using this
  exact e.map _
def AttPost (cb : Nat) (R : Nat → List It) (m : Value) (room target : Int) (r : Nat) (x : It) (w : World) (e : Ending) (w' : World) : Prop :=
  e = .returned (.tuple #[]) ∧ RA w' cb (upd R r (R r ++ [x])) m room target ∧ Fr (RM cb (x :: R r)) w w'
theorem attach_any (w : World) (cb : Nat) (R : Nat → List It) (m : Value) (room target : Int) (h : RA w cb R m room target) (r : Nat) (hr : r < 4) (x : It) (a1 a3 a4 : Value) (hX : RowAt w x.b 73 [.int .i64 x.key, a1, ptr x.d, a3, a4]) (hxc : x.b ≠ cb) (hxR : ∀ y ∈ allI R, y.b ≠ x.b) (hl : (R r).length < 100000) :
    Calls Try.prog 33 #[.pointer (some ⟨cb, 0, none⟩), .int .i64 r, .pointer (some ⟨x.b, 0, none⟩)] w (AttPost cb R m room target r x w) := by
  obtain ⟨k0, k1, k2⟩ := cells_at R m room target r hr
  have hlk := h.lk r hr
  have hC := h.row
  have hnd : ((allI (upd R r (R r ++ [x]))).map (·.b)).Nodup := by
    rw [(allI_snoc hr x).nodup_iff, List.nodup_cons]
    exact ⟨fun hm => by obtain ⟨y, hy, e⟩ := List.mem_map.1 hm; exact hxR y hy e, h.nd⟩
  have hne : ∀ y ∈ R r ++ [x], y.b ≠ cb := by
    intro y hy
    rcases List.mem_append.1 hy with hy | hy
    · exact h.ne y (mem_allI.2 ⟨r, hr, hy⟩)
    · simp at hy; subst hy; exact hxc
  have hlz : (((R r).length : Nat) : Int) + 1 = ((R r ++ [x]).length : Nat) := by simp
  have hlast : lastB (R r ++ [x]) none = some x.b := by rw [lastB_append]; rfl
  have close : ∀ (q : Option Nat) (w' : World), (∀ k, q = some k → ∃ y ∈ R r, y.b = k) → Fr (DM cb x.b q none) w w' → RowAt w' cb 69 (cells (upd R r (R r ++ [x])) m room target) → Lk w' r none (R r ++ [x]) none → AttPost cb R m room target r x w (.returned (.tuple #[])) w' := by
    intro q w' hq hf hC' hlk'
    have hM : ∀ k, DM cb x.b q none k → RM cb (x :: R r) k := by
      rintro k (rfl | rfl | hk | hk)
      · exact .inl rfl
      · exact .inr ⟨x, List.mem_cons_self .., rfl⟩
      · obtain ⟨y, hy, e⟩ := hq k hk; exact .inr ⟨y, List.mem_cons_of_mem _ hy, e⟩
      · cases hk
    refine ⟨rfl, h.change hr hf ?_ hC' hlk' hnd hne (by simp; omega), hf.mono fun k _ hk => hM k hk⟩
    intro s y hs hsr hy hk
    rcases hM _ hk with e | ⟨z, hz, e⟩
    · exact h.ne y (mem_allI.2 ⟨s, hs, hy⟩) e
    · rcases List.mem_cons.1 hz with rfl | hz
      · exact hxR y (mem_allI.2 ⟨s, hs, hy⟩) e.symm
      · exact h.apart hr hs (Ne.symm hsr) hz hy e
  have hz0 : (0 : Int) ≤ ((R r).length : Nat) := by omega
  have hz1 : (((R r).length : Nat) : Int) ≤ 100000 := by omega
  rcases List.eq_nil_or_concat (R r) with hnil | ⟨A, y, hA⟩
  · rw [hnil] at k1 k0 k2 hz0 hz1
    refine (attach_n w cb x.b _ _ a1 a3 a4 r hr _ _ hz0 hz1 hC k2 _ k0 k1 hX hxc).mono ?_
    rintro e w' ⟨rfl, hf, hX', hC'⟩
    refine close none w' (by rintro k h; cases h) hf ?_ ?_
    · rw [← cells_upd R m room target r hr, ← hlz, hnil]
      exact hC'
    · rw [hnil]; exact ⟨hX', trivial⟩
  · rw [List.concat_eq_append] at hA
    have hlb : lastB (R r) none = some y.b := by rw [hA, lastB_append]; rfl
    rw [hlb] at k1
    have hy : y ∈ R r := by rw [hA]; simp
    have hlk2 := hlk
    rw [hA, Lk_append] at hlk2
    obtain ⟨la, ly, _⟩ := hlk2
    refine (attach_s w cb x.b y.b _ _ a1 a3 a4 r hr _ _ hz0 hz1 hC k2 k1 _ _ _ _ _ ly (hxR y (mem_allI.2 ⟨r, hr, hy⟩)) (h.ne y (mem_allI.2 ⟨r, hr, hy⟩)) hX hxc).mono ?_
    rintro e w' ⟨rfl, hf, hX', hC', hQ'⟩
    refine close (some y.b) w' (by rintro k h; cases h; exact ⟨y, hy, rfl⟩) hf ?_ ?_
    · rw [← cells_upd R m room target r hr, ← hlz, hlast]
      have hsame : (cells R m room target)[r * 3]? = some (ptr (nx (R r ++ [x]) none)) := by rw [k0, hA]; cases A <;> rfl
      rw [set_same hsame]
      exact hC'
    · rw [Lk_append]
      refine ⟨?_, by rw [hlb]; exact ⟨hX', trivial⟩⟩
      rw [hA, Lk_append]
      refine ⟨la.fr hf ?_, hQ', trivial⟩
      intro u hu hm
      have hub : u ∈ R r := by rw [hA]; simp [hu]
      have hnd2 := h.nodup hr
      rw [hA, List.map_append, List.nodup_append] at hnd2
      rcases hm with e | e | e | e
      · exact h.ne u (mem_allI.2 ⟨r, hr, hub⟩) e
      · exact hxR u (mem_allI.2 ⟨r, hr, hub⟩) e
      · exact hnd2.2.2 _ (List.mem_map.2 ⟨u, hu, rfl⟩) y.b (by simp) (Option.some.inj e).symm
      · cases e
end Go.Proofs.Ytefjpljjdjecjaa
