/- What the document's Put comes to, case by case. -/
import Derived.Test.YtefjpljjdjecjaaYe
import Derived.Test.YtefjpljjdjecjaaWu
namespace Go.Proofs.Ytefjpljjdjecjaa
open Go.RowKit
theorem zero78 (w : World) : (zeroValue 78).run Try.prog w = .ok (.agg (had (0, none)).toArray) w := by kernel_rfl
theorem isize78 (e : He) : (Try.prog.info? 78).map (·.size) = some (had e).toArray.size := by
  obtain ⟨i, z, e1, _, e3, _⟩ := info78
  rw [e1]
  simp [e3, had_len]
theorem hone (e : He) : (had e).toArray.all (·.oneCell') = true := by
  rw [Array.all_eq_true_iff_forall_mem]
  intro x hx
  exact had_one e x (by simpa using hx)
theorem fI_hit {L : List He} {k : Int} (h : hasK L k = true) : ∃ i : Nat, fI L k = i ∧ i < L.length ∧ ∃ e, L[i]? = some e ∧ e.1 = k := by
  rcases fI_cases L k with ⟨_, h2⟩ | ⟨i, h1, h2, _, h4⟩
  · rw [h] at h2; cases h2
  · exact ⟨i, h1, h2, h4⟩
theorem fI_miss {L : List He} {k : Int} (h : hasK L k = false) : fI L k = -1 := by
  rcases fI_cases L k with ⟨h1, _⟩ | ⟨i, _, _, h3, _⟩
  · exact h1
  · rw [h] at h3; cases h3
theorem hasK_iff (L : List He) (k : Int) : hasK L k = true ↔ k ∈ ksP L := by
  unfold hasK ksP
  rw [List.any_eq_true, List.mem_map]
  constructor
  · rintro ⟨x, h1, h2⟩; exact ⟨x, h1, by simpa using h2⟩
  · rintro ⟨x, h1, h2⟩; exact ⟨x, h1, by simpa using h2⟩
theorem rm_not {L : List He} {k : Int} (h : k ∉ ksP L) : rmL L k = L := by
  unfold rmL
  rw [List.filter_eq_self]
  intro x hx
  simp only [bne_iff_ne, ne_eq]
  rintro rfl
  exact h (List.mem_map_of_mem hx)
theorem rm_erase : ∀ {L : List He} {k : Int} {i : Nat} {e : He}, (ksP L).Nodup → L[i]? = some e → e.1 = k → rmL L k = L.eraseIdx i
  | [], _, _, _, _, h, _ => by simp at h
  | x :: L, k, 0, e, hn, h, hk => by
    obtain rfl : x = e := by simpa using h
    subst hk
    have hn' : x.1 ∉ ksP L ∧ (ksP L).Nodup := by simpa [ksP] using hn
    show List.filter _ (x :: L) = _
    rw [List.filter_cons_of_neg (by simp), List.eraseIdx_cons_zero]
    exact rm_not hn'.1
  | x :: L, k, i + 1, e, hn, h, hk => by
    have hn' : x.1 ∉ ksP L ∧ (ksP L).Nodup := by simpa [ksP] using hn
    have h' : L[i]? = some e := by simpa using h
    have hx : x.1 ≠ k := by
      rintro rfl
      exact hn'.1 (hk ▸ List.mem_map_of_mem (List.mem_of_getElem? h'))
    show List.filter _ (x :: L) = _
    rw [List.filter_cons_of_pos (by simpa using hx), List.eraseIdx_cons_succ]
    exact congrArg _ (rm_erase hn'.2 h' hk)
theorem NK.parts {p : Pu} (h : NK p) : (ksP p.a).Nodup ∧ (ksP p.b).Nodup ∧ (ksP p.c).Nodup ∧ (ksP p.d).Nodup ∧ (∀ k, k ∈ ksP p.a → k ∉ ksP p.b ∧ k ∉ ksP p.c ∧ k ∉ ksP p.d) ∧ (∀ k, k ∈ ksP p.b → k ∉ ksP p.a ∧ k ∉ ksP p.c ∧ k ∉ ksP p.d) ∧ (∀ k, k ∈ ksP p.c → k ∉ ksP p.a ∧ k ∉ ksP p.b ∧ k ∉ ksP p.d) ∧ (∀ k, k ∈ ksP p.d → k ∉ ksP p.a ∧ k ∉ ksP p.b ∧ k ∉ ksP p.c) := by
  unfold NK at h
  simp only [List.nodup_append, List.mem_append] at h
  obtain ⟨⟨⟨h1, h2, h3⟩, h4, h5⟩, h6, h7⟩ := h
  refine ⟨h1, h2, h4, h6, fun k hk => ⟨fun x => h3 k hk k x rfl, fun x => h5 k (.inl hk) k x rfl, fun x => h7 k (.inl (.inl hk)) k x rfl⟩, fun k hk => ⟨fun x => h3 k x k hk rfl, fun x => h5 k (.inr hk) k x rfl, fun x => h7 k (.inl (.inr hk)) k x rfl⟩, fun k hk => ⟨fun x => h5 k (.inl x) k hk rfl, fun x => h5 k (.inr x) k hk rfl, fun x => h7 k (.inr hk) k x rfl⟩, fun k hk => ⟨fun x => h7 k (.inl (.inl x)) k hk rfl, fun x => h7 k (.inl (.inr x)) k hk rfl, fun x => h7 k (.inr x) k hk rfl⟩⟩
theorem put_hit_a {p : Pu} (hn : NK p) {k : Int} (hk : hasK p.a k = true) {i : Nat} {e : He} (he : p.a[i]? = some e) (hek : e.1 = k) (c : Int) : putP p k c = { p with a := p.a.eraseIdx i, b := p.b ++ [(k, some c)] } := by
  obtain ⟨n1, n2, n3, n4, s1, _⟩ := hn.parts
  obtain ⟨t1, t2, t3⟩ := s1 k ((hasK_iff _ _).1 hk)
  unfold putP whereP
  rw [if_pos hk]
  show moveP p k (some c) = _
  unfold moveP rmP
  rw [rm_erase n1 he hek, rm_not t1, rm_not t2, rm_not t3]
theorem put_hit_b {p : Pu} (hn : NK p) {k : Int} (hk : hasK p.b k = true) {i : Nat} {e : He} (he : p.b[i]? = some e) (hek : e.1 = k) (c : Int) : putP p k c = { p with b := p.b.eraseIdx i ++ [(k, some c)] } := by
  obtain ⟨n1, n2, n3, n4, _, s1, _⟩ := hn.parts
  obtain ⟨t1, t2, t3⟩ := s1 k ((hasK_iff _ _).1 hk)
  unfold putP whereP
  rw [if_neg (fun h => t1 ((hasK_iff _ _).1 h)), if_pos hk]
  show moveP p k (some c) = _
  unfold moveP rmP
  rw [rm_erase n2 he hek, rm_not t1, rm_not t2, rm_not t3]
theorem nk_room {p : Pu} (h : NK p) (hr : 1 ≤ p.room) (g : Bool) : NK (roomP p g) := by
  rcases room_cases p g hr with ⟨_, e⟩ | ⟨_, x, L, hx, e⟩ | ⟨_, x, L, hx, e⟩
  · rw [e]; exact h
  · rw [e]
    unfold NK at h ⊢
    rw [hx] at h
    refine (List.Perm.nodup_iff ?_).1 h
    simp only [ksP, List.map_cons, List.map_append, List.map_nil, List.cons_append]
    refine (List.perm_middle (l₁ := L.map (·.1) ++ p.b.map (·.1) ++ p.c.map (·.1)) (l₂ := p.d.map (·.1)) (a := x.1)).symm.trans ?_ |>.trans (List.Perm.refl _)
    simp
  · rw [e]
    unfold NK at h ⊢
    rw [hx] at h
    refine (List.Perm.nodup_iff ?_).1 h
    simp only [ksP, List.map_cons, List.map_append, List.map_nil]
    refine List.Perm.trans (l₂ := x.1 :: (p.a.map (·.1) ++ (L.map (·.1) ++ (p.c.map (·.1) ++ p.d.map (·.1))))) ?_ ?_
    · simp only [List.append_assoc, List.cons_append]
      exact List.perm_middle
    · have := (List.perm_middle (l₁ := p.a.map (·.1) ++ (L.map (·.1) ++ (p.c.map (·.1) ++ p.d.map (·.1)))) (l₂ := []) (a := x.1)).symm
      simpa [List.append_assoc] using this
theorem keep_room {p : Pu} (hr : 1 ≤ p.room) (g : Bool) {k : Int} : (hasK p.c k = true → hasK (roomP p g).c k = true) ∧ (hasK p.d k = true → hasK (roomP p g).d k = true) := by
  rcases room_cases p g hr with ⟨_, e⟩ | ⟨_, x, L, hx, e⟩ | ⟨_, x, L, hx, e⟩
  · rw [e]; exact ⟨id, id⟩
  · rw [e]
    exact ⟨fun h => by simp only [hasK, List.any_append] at *; simp [h], id⟩
  · rw [e]
    exact ⟨id, fun h => by simp only [hasK, List.any_append] at *; simp [h]⟩
theorem len_room {p : Pu} (hr : 1 ≤ p.room) (g : Bool) : (roomP p g).a.length ≤ p.a.length ∧ (roomP p g).b.length ≤ p.b.length ∧ (roomP p g).c.length ≤ p.c.length + 1 ∧ (roomP p g).d.length ≤ p.d.length + 1 := by
  rcases room_cases p g hr with ⟨_, e⟩ | ⟨_, x, L, hx, e⟩ | ⟨_, x, L, hx, e⟩
  · rw [e]; omega
  · rw [e, hx]; simp
  · rw [e, hx]; simp
theorem put_hit_c {p p1 : Pu} {k : Int} (hn : NK p) (hr : 1 ≤ p.room) (ha : hasK p.a k = false) (hb : hasK p.b k = false) (hk : hasK p.c k = true) (hp1 : p1 = roomP { p with target := adjP2 p } false) {i : Nat} {e : He} (he : p1.c[i]? = some e) (hek : e.1 = k) (c : Int) : putP p k c = { p1 with c := p1.c.eraseIdx i, b := p1.b ++ [(k, some c)] } := by
  have hn1 : NK p1 := hp1 ▸ nk_room (p := { p with target := adjP2 p }) hn hr false
  have hk1 : hasK p1.c k = true := hp1 ▸ (keep_room (p := { p with target := adjP2 p }) hr false).1 hk
  obtain ⟨n1, n2, n3, n4, _, _, s1, _⟩ := hn1.parts
  obtain ⟨t1, t2, t3⟩ := s1 k ((hasK_iff _ _).1 hk1)
  unfold putP whereP
  rw [if_neg (by simp [ha]), if_neg (by simp [hb]), if_pos hk]
  show moveP (roomP { p with target := adjP2 p } false) k (some c) = _
  rw [← hp1]
  unfold moveP rmP
  rw [rm_erase n3 he hek, rm_not t1, rm_not t2, rm_not t3]
theorem put_hit_d {p p1 : Pu} {k : Int} (hn : NK p) (hr : 1 ≤ p.room) (ha : hasK p.a k = false) (hb : hasK p.b k = false) (hc : hasK p.c k = false) (hk : hasK p.d k = true) (hp1 : p1 = roomP { p with target := adjP3 p } true) {i : Nat} {e : He} (he : p1.d[i]? = some e) (hek : e.1 = k) (c : Int) : putP p k c = { p1 with d := p1.d.eraseIdx i, b := p1.b ++ [(k, some c)] } := by
  have hn1 : NK p1 := hp1 ▸ nk_room (p := { p with target := adjP3 p }) hn hr true
  have hk1 : hasK p1.d k = true := hp1 ▸ (keep_room (p := { p with target := adjP3 p }) hr true).2 hk
  obtain ⟨n1, n2, n3, n4, _, _, _, s1⟩ := hn1.parts
  obtain ⟨t1, t2, t3⟩ := s1 k ((hasK_iff _ _).1 hk1)
  unfold putP whereP
  rw [if_neg (by simp [ha]), if_neg (by simp [hb]), if_neg (by simp [hc]), if_pos hk]
  show moveP (roomP { p with target := adjP3 p } true) k (some c) = _
  rw [← hp1]
  unfold moveP rmP
  rw [rm_erase n4 he hek, rm_not t1, rm_not t2, rm_not t3]
theorem put_new {p : Pu} {k : Int} (ha : hasK p.a k = false) (hb : hasK p.b k = false) (hc : hasK p.c k = false) (hd : hasK p.d k = false) (c : Int) : putP p k c = newP (meetPreP p) k (some c) := by
  unfold putP whereP
  rw [if_neg (by simp [ha]), if_neg (by simp [hb]), if_neg (by simp [hc]), if_neg (by simp [hd])]
section
variable {p p1 : Pu} {k : Int} (hw : WF p) (ha : hasK p.a k = false) (hb : hasK p.b k = false) (hc : hasK p.c k = false) (hd : hasK p.d k = false) (c : Int)
include ha hb hc hd
theorem put_new1 (h1 : (p.a.length : Int) + p.c.length = p.room) (h2 : (p.a.length : Int) < p.room) (hp1 : p1 = roomP { p with c := p.c.tail } false) : putP p k c = { p1 with a := p1.a ++ [(k, some c)] } := by
  rw [put_new ha hb hc hd]
  unfold meetPreP
  rw [if_pos (by omega), if_pos h2, ← hp1]
  rfl
theorem put_new2 (h1 : (p.a.length : Int) + p.c.length = p.room) (h2 : ¬ (p.a.length : Int) < p.room) : putP p k c = { p with a := p.a.tail ++ [(k, some c)] } := by
  rw [put_new ha hb hc hd]
  unfold meetPreP
  rw [if_pos (by omega), if_neg h2]
  rfl
include hw in
theorem put_new3 (h1 : (p.a.length : Int) + p.c.length ≠ p.room) (h3 : allP p = 2 * p.room) (hp1 : p1 = roomP { p with d := p.d.tail } false) : putP p k c = { p1 with a := p1.a ++ [(k, some c)] } := by
  rw [put_new ha hb hc hd]
  have := hw.h2; have := hw.rm
  unfold meetPreP
  rw [if_neg (by omega), if_pos (by omega), if_pos (by omega), ← hp1]
  rfl
include hw in
theorem put_new4 (h1 : (p.a.length : Int) + p.c.length ≠ p.room) (h2 : p.room ≤ allP p) (h3 : allP p ≠ 2 * p.room) (hp1 : p1 = roomP p false) : putP p k c = { p1 with a := p1.a ++ [(k, some c)] } := by
  rw [put_new ha hb hc hd]
  have := hw.h2; have := hw.h3
  have : allP p = p.a.length + p.b.length + p.c.length + p.d.length := rfl
  unfold meetPreP
  rw [if_neg (by omega), if_pos (by omega), if_neg (by omega), ← hp1]
  rfl
include hw in
theorem put_new5 (h1 : (p.a.length : Int) + p.c.length ≠ p.room) (h2 : ¬ p.room ≤ allP p) : putP p k c = { p with a := p.a ++ [(k, some c)] } := by
  rw [put_new ha hb hc hd]
  have := hw.h2
  unfold meetPreP
  rw [if_neg (by omega), if_neg h2]
  rfl
end
section
variable {ops : Array Oper} {rest : List Oper} {o : Oper} {a : Act} {w : World} {Q : Exit → Act → World → Prop}
theorem wpList_sliceR {x l : Operand} {v v' lo : Value} (hw : Region.wanted o (yielded ops a.tmps) = true) (ho : o.op = .slice 56 x (some l) none none) (hx : a.eval x = v) (hl : a.eval l = lo) (hr : (Instr.slice 56 v (some lo) none none).run Try.prog w = .ok v' w)
    (h : wpList Try.prog ops Q rest (a.put o.dst v') w) : wpList Try.prog ops Q (o :: rest) a w := by
  refine BigFrame.wpList_want hw fun K hK => ?_
  unfold Oper.wp execOp
  simp only [ho, Sem.run_bind, hx, hl, Option.map_some, Option.map_none, run_sliceAt_slice w 56 v (some lo) none none ht56, hr, Result.andThen_ok, Sem.run_pure]
  exact hK _ _ h
end
end Go.Proofs.Ytefjpljjdjecjaa
