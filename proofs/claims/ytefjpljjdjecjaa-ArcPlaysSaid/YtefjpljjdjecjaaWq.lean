/- The functions on a cache, in words of plain lists. -/
import Derived.Test.YtefjpljjdjecjaaWp
namespace Go.Proofs.Ytefjpljjdjecjaa
open Go.RowKit
/-- A cache in memory that stands as p says, and touches none of A. -/
def PA (A : Nat → Prop) (w : World) (cb : Nat) (p : Pu) : Prop := ∃ s, CA w cb s ∧ absS s = p ∧ DV s ∧ WF p ∧ ∀ k, A k → ¬ Own cb s k
def Kp (A : Nat → Prop) (w w' : World) : Prop := Fr (fun k => ¬ A k) w w'
theorem Kp.refl (A : Nat → Prop) (w : World) : Kp A w w := Fr.refl _ _
theorem Kp.of (A : Nat → Prop) {w w' : World} (h : Below w.heap.size w w') : Kp A w w' := Fr.of_below h
theorem Kp.below {B : Nat} {w w' : World} (h : Kp (· < B) w w') (hB : B ≤ w.heap.size) : Below B w w' := Fr.below h hB fun k hk => by omega
theorem PA.next {A : Nat → Prop} {w w' : World} {cb : Nat} {p : Pu} (h : PA A w cb p) (hb : Below w.heap.size w w') : PA A w' cb p := by
  obtain ⟨s, h1, h2, h3, h4, h5⟩ := h
  exact ⟨s, h1.nextb hb, h2, h3, h4, h5⟩
theorem PA.wf {A : Nat → Prop} {w : World} {cb : Nat} {p : Pu} (h : PA A w cb p) : WF p := by
  obtain ⟨s, _, _, _, h4, _⟩ := h; exact h4
theorem PA.mono {A A' : Nat → Prop} {w : World} {cb : Nat} {p : Pu} (h : PA A w cb p) (hA : ∀ k, A' k → A k) : PA A' w cb p := by
  obtain ⟨s, h1, h2, h3, h4, h5⟩ := h
  exact ⟨s, h1, h2, h3, h4, fun k hk => h5 k (hA k hk)⟩
/-- What is new is none of it. -/
theorem PA.add {A : Nat → Prop} {w : World} {cb : Nat} {p : Pu} (h : PA A w cb p) {w' : World} (hb : Below w.heap.size w w') : PA (fun k => A k ∨ w.heap.size ≤ k) w' cb p := by
  obtain ⟨s, h1, h2, h3, h4, h5⟩ := h
  refine ⟨s, h1.nextb hb, h2, h3, h4, fun k hk ho => ?_⟩
  rcases hk with hk | hk
  · exact h5 k hk ho
  · have := h1.lt ho; omega
theorem small_of {s : Cs} (h : WF (absS s)) : Small s := by
  have h1 := h.h1; have h3 := h.h3; have hr := h.rm
  have e0 : (absS s).a.length = (s.R 0).length := by simp [absS]
  have e1 : (absS s).b.length = (s.R 1).length := by simp [absS]
  have e2 : (absS s).c.length = (s.R 2).length := by simp [absS]
  have e3 : (absS s).d.length = (s.R 3).length := by simp [absS]
  intro r hr
  match r, hr with
  | 0, _ => omega
  | 1, _ => omega
  | 2, _ => omega
  | 3, _ => omega
theorem GoesV.pa {A : Nat → Prop} {cb : Nat} {s s' : Cs} {w w' : World} (h : GoesV cb s s' w w') (hA : ∀ k, A k → k < w.heap.size) (hO : ∀ k, A k → ¬ Own cb s k) {p : Pu} (hp : absS s' = p) (hd : DV s') (hw : WF p) : PA A w' cb p ∧ Kp A w w' := by
  refine ⟨⟨s', h.1, hp, hd, hw, fun k hk ho => ?_⟩, h.2.1.mono fun k _ ho hk => hO k hk ho⟩
  rcases h.2.2 k ho with h2 | h2
  · exact hO k hk h2
  · have := hA k hk; omega
theorem put_pa {A : Nat → Prop} (w : World) (cb : Nat) (p : Pu) (h : PA A w cb p) (hA : ∀ k, A k → k < w.heap.size) (key c : Int) :
    Calls Try.prog 11 #[.pointer (some ⟨cb, 0, none⟩), .int .i64 key, .agg (blk c).toArray] w fun e w' => e = .returned (.int .i64 0) ∧ PA A w' cb (putP p key c) ∧ Kp A w w' := by
  obtain ⟨s, h1, rfl, h3, h4, h5⟩ := h
  refine (put_any w cb s h1 (small_of h4) key (blk c)).mono ?_
  rintro e w' ⟨rfl, s', hg, hp⟩
  exact ⟨rfl, hg.pa hA h5 (abs_put h1.nk hp) (h3.put hp) (h4.put key c)⟩
def lookP (p : Pu) (k : Int) : Option Int := ((p.a ++ p.b).find? fun y => y.1 == k).bind (·.2)
theorem look_abs (s : Cs) (k : Int) : lookP (absS s) k = (fk (s.R 0 ++ s.R 1) k).bind fun x => (absI x).2 := by
  unfold lookP absS fk
  rw [← List.map_append, List.find?_map]
  show (((s.R 0 ++ s.R 1).find? fun x => x.key == k).map absI).bind _ = _
  cases (s.R 0 ++ s.R 1).find? fun x => x.key == k <;> rfl
theorem nodup01 {s : Cs} (hn : ((allI s.R).map (·.key)).Nodup) : ((s.R 0 ++ s.R 1).map (·.key)).Nodup := by
  refine hn.sublist (List.Sublist.map _ ?_)
  unfold allI
  exact (List.sublist_append_left _ _).trans (List.sublist_append_left _ _)
theorem get_pa_some {A : Nat → Prop} (w : World) (cb : Nat) (p : Pu) (h : PA A w cb p) (hA : ∀ k, A k → k < w.heap.size) (key c : Int) (hl : lookP p key = some c) :
    Calls Try.prog 12 #[.pointer (some ⟨cb, 0, none⟩), .int .i64 key] w fun e w' => e = .returned (.tuple #[.agg (blk c).toArray, .int .i64 0]) ∧ PA A w' cb (moveP p key (some c)) ∧ Kp A w w' := by
  obtain ⟨s, h1, rfl, h3, h4, h5⟩ := h
  rw [look_abs] at hl
  obtain ⟨x, hx, hc⟩ := Option.bind_eq_some_iff.1 hl
  obtain ⟨hm, hk⟩ := (fk_iff (nodup01 h1.nk) key x).1 hx
  obtain ⟨r, hr, hr4, hxr⟩ : ∃ r, r < 2 ∧ r < 4 ∧ x ∈ s.R r := by
    rcases List.mem_append.1 hm with h | h
    · exact ⟨0, by decide, by decide, h⟩
    · exact ⟨1, by decide, by decide, h⟩
  have hd : x.d.isSome := by
    unfold absI at hc
    cases hxd : x.d with
    | none => rw [hxd] at hc; cases hc
    | some d => rfl
  have hcb : byteOf x.v = c := by
    obtain ⟨d, hxd⟩ := Option.isSome_iff_exists.1 hd
    unfold absI at hc
    rw [hxd] at hc
    simpa using hc
  have hv : x.v = blk c := by
    have := h3 x (mem_allI.2 ⟨r, hr4, hxr⟩) hd
    rwa [hcb] at this
  refine (get_some w cb s h1 (small_of h4) key x r hr4 hxr hk hd (by rw [hv]; exact blk_one c)).mono ?_
  rintro e w' ⟨rfl, hg⟩
  have hpre : havePre s r = s := by unfold havePre; rw [if_neg (by omega), if_neg (by omega)]
  have hpreP : havePreP (absS s) r = absS s := by unfold havePreP; rw [if_neg (by omega), if_neg (by omega)]
  rw [hpre] at hg
  rw [hv]
  refine ⟨rfl, hg.pa hA h5 ?_ (h3.of ?_) ?_⟩
  · rw [abs_move, hk, hc]
  · have := DS.have (s := s) hr4 hxr
    rwa [hpre] at this
  · have := h4.move c (where_some h1.nk hr4 hxr hk)
    rwa [hpreP] at this
theorem get_pa_none {A : Nat → Prop} (w : World) (cb : Nat) (p : Pu) (h : PA A w cb p) (key : Int) (hl : lookP p key = none) :
    Calls Try.prog 12 #[.pointer (some ⟨cb, 0, none⟩), .int .i64 key] w fun e w' => e = .returned (.tuple #[.agg (blk 0).toArray, .int .i64 5]) ∧ PA A w' cb p ∧ Below w.heap.size w w' := by
  obtain ⟨s, h1, rfl, h3, h4, h5⟩ := h
  refine (get_not w cb s h1 key fun x hx => ?_).mono ?_
  · obtain ⟨hm, hk⟩ := (fk_iff h1.nk key x).1 hx
    rw [look_abs] at hl
    unfold allI at hm
    rcases List.mem_append.1 hm with hm | hm
    · rcases List.mem_append.1 hm with hm | hm
      · rw [(fk_iff (nodup01 h1.nk) key x).2 ⟨hm, hk⟩] at hl
        simpa [absI] using hl
      · have := h4.fc (absI x) (List.mem_map_of_mem hm)
        simpa [absI] using this
    · have := h4.fd (absI x) (List.mem_map_of_mem hm)
      simpa [absI] using this
  · rintro e w' ⟨rfl, hb⟩
    exact ⟨rfl, ⟨s, h1.nextb hb, rfl, h3, h4, h5⟩, hb⟩
theorem fk_where {s : Cs} {k : Int} (hn : ((allI s.R).map (·.key)).Nodup) : fk (allI s.R) k = none ↔ whereP (absS s) k = none := by
  refine ⟨where_none, fun h => ?_⟩
  cases hf : fk (allI s.R) k with
  | none => rfl
  | some x =>
    obtain ⟨hm, hk⟩ := (fk_iff hn k x).1 hf
    obtain ⟨r, hr, hx⟩ := mem_allI.1 hm
    rw [where_some hn hr hx hk] at h
    cases h
theorem drop_pa_none {A : Nat → Prop} (w : World) (cb : Nat) (p : Pu) (h : PA A w cb p) (key : Int) (hk : whereP p key = none) :
    Calls Try.prog 16 #[.pointer (some ⟨cb, 0, none⟩), .int .i64 key] w fun e w' => e = .returned (.int .i64 5) ∧ w = w' := by
  obtain ⟨s, h1, rfl, h3, h4, h5⟩ := h
  exact drop_none w cb s h1 key ((fk_where h1.nk).2 hk)
theorem drop_pa_some {A : Nat → Prop} (w : World) (cb : Nat) (p : Pu) (h : PA A w cb p) (hA : ∀ k, A k → k < w.heap.size) (key : Int) (hk : whereP p key ≠ none) :
    Calls Try.prog 16 #[.pointer (some ⟨cb, 0, none⟩), .int .i64 key] w fun e w' => e = .returned (.int .i64 0) ∧ PA A w' cb (rmP p key) ∧ Kp A w w' := by
  obtain ⟨s, h1, rfl, h3, h4, h5⟩ := h
  cases hf : fk (allI s.R) key with
  | none => exact absurd (where_none hf) hk
  | some x =>
    obtain ⟨hm, hxk⟩ := (fk_iff h1.nk key x).1 hf
    obtain ⟨r, hr, hx⟩ := mem_allI.1 hm
    refine (drop_some w cb s h1 key x r hr hx hxk).mono ?_
    rintro e w' ⟨rfl, hg⟩
    refine ⟨rfl, hg.pa hA h5 (abs_drop s key) (h3.of ?_) (h4.rm' key)⟩
    intro y hy d hd
    obtain ⟨i, hi, hy⟩ := mem_allI.1 hy
    exact ⟨y, mem_allI.2 ⟨i, hi, (List.mem_filter.1 hy).1⟩, hd, rfl, rfl⟩
theorem target_pa {A : Nat → Prop} (w : World) (cb : Nat) (p : Pu) (h : PA A w cb p) : Calls Try.prog 14 #[.pointer (some ⟨cb, 0, none⟩)] w fun e w' => e = .returned (.int .i64 p.target) ∧ w = w' := by
  obtain ⟨s, h1, rfl, _⟩ := h
  exact target_any w cb s h1
def ksP (l : List (Int × Option Int)) : List Int := l.map (·.1)
theorem ks_abs (L : List It) : ksP (L.map absI) = keysL L := by simp [ksP, keysL, absI]
def Rows4P (B : Nat) (p : Pu) (v : Value) (w : World) : Prop := ∃ a b c d, v = .tuple #[a, b, c, d] ∧ IntsAt B (ksP p.a) a w ∧ IntsAt B (ksP p.b) b w ∧ IntsAt B (ksP p.c) c w ∧ IntsAt B (ksP p.d) d w
theorem rows_pa {A : Nat → Prop} (w : World) (cb : Nat) (p : Pu) (h : PA A w cb p) : Calls Try.prog 13 #[.pointer (some ⟨cb, 0, none⟩)] w fun e w' => ∃ v, e = .returned v ∧ Rows4P w.heap.size p v w' ∧ Below w.heap.size w w' := by
  obtain ⟨s, h1, rfl, _⟩ := h
  refine (rows_any w cb s h1).mono ?_
  rintro e w' ⟨v, rfl, ⟨a, b, c, d, rfl, i1, i2, i3, i4⟩, hb⟩
  refine ⟨_, rfl, ⟨a, b, c, d, rfl, ?_⟩, hb⟩
  unfold absS
  simp only [ks_abs]
  exact ⟨i1, i2, i3, i4⟩
def newPu (c : Int) : Pu := ⟨[], [], [], [], c, 0⟩
theorem new_pa (w : World) (c : Int) (h1 : 1 ≤ c) (h2 : c ≤ 1024) :
    Calls Try.prog 9 #[.int .i64 c] w fun e w' => ∃ cb, e = .returned (.tuple #[.pointer (some ⟨cb, 0, none⟩), .int .i64 0]) ∧ PA (· < w.heap.size) w' cb (newPu c) ∧ Below w.heap.size w w' := by
  refine (new_any w c h1 h2).mono ?_
  rintro e w' ⟨cb, mb, rfl, hc, l1, l2, hb⟩
  refine ⟨cb, rfl, ⟨newCs mb c, hc, rfl, fun x hx => by simp [newCs, emptyR, allI] at hx, ⟨by simp [newPu], by simp [newPu], by simp [newPu], by simp [newPu], ?_, ?_, ?_, ⟨h1, h2⟩, ⟨by simp [newPu], by simp [newPu]; omega⟩⟩, ?_⟩, hb⟩
  · simp [newPu]; omega
  · simp [newPu]; omega
  · simp [newPu]; omega
  · rintro k hk (rfl | rfl | ⟨x, hx, _⟩)
    · omega
    · exact absurd hk (Nat.not_lt.2 l2)
    · simp [newCs, emptyR, allI] at hx
end Go.Proofs.Ytefjpljjdjecjaa
