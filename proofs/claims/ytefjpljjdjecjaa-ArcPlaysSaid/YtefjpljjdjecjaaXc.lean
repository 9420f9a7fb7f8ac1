/- Copy: a cache that goes its own way. -/
import Derived.Test.YtefjpljjdjecjaaXa
namespace Go.Proofs.Ytefjpljjdjecjaa
open Go.RowKit
def addR (s : Cs) (r : Nat) (x : It) : Cs := setR s (upd s.R r (s.R r ++ [x]))
theorem addR_goes {w w2 w3 : World} {cb : Nat} {s : Cs} (h : CA w cb s) {r : Nat} (hr : r < 4) (x : It) (hxb : x.b = w.heap.size) (hk : fk (allI s.R) x.key = none) (hd : ∀ d, x.d = some d → RowAt w d 30 x.v ∧ ¬ Own cb s d) (o : Obj)
    (mp : MapAt w2 s.mb (fun j => if j = x.key then some (ptr (some x.b)) else mapOf s.R j)) (hf2 : Fr (· = s.mb) (w.alloc o) w2) (ra3 : RA w3 cb (upd s.R r (s.R r ++ [x])) (.map (some s.mb)) s.room s.target) (hf3 : Fr (RM cb (x :: s.R r)) w2 w3) : Goes cb s (addR s r x) w (.returned (.tuple #[])) w3 := by
  have hp : (allI (upd s.R r (s.R r ++ [x]))).Perm (x :: allI s.R) := by
    have := allI_ins (R := s.R) (r := r) hr (s.R r) x []
    rwa [List.append_nil, upd_self] at this
  have hkn : ∀ y ∈ allI s.R, y.key ≠ x.key := by
    intro y hy e
    unfold fk at hk
    rw [List.find?_eq_none] at hk
    exact hk y hy (by simpa using e)
  have hnk : ((allI (upd s.R r (s.R r ++ [x]))).map (·.key)).Nodup := by
    rw [(hp.map (·.key)).nodup_iff, List.map_cons, List.nodup_cons]
    refine ⟨fun hm => ?_, h.nk⟩
    obtain ⟨y, hy, e⟩ := List.mem_map.1 hm
    exact hkn y hy e
  have hmem : ∀ y ∈ allI (upd s.R r (s.R r ++ [x])), y = x ∨ y ∈ allI s.R := fun y hy => List.mem_cons.1 (hp.mem_iff.1 hy)
  have hfr : Fresh cb s (addR s r x) w := by
    rintro k (e | e | ⟨y, hy, e⟩)
    · exact .inl (.inl e)
    · exact .inl (.inr (.inl e))
    · rcases hmem y hy with rfl | hy
      · exact .inr (by omega)
      · exact .inl (.inr (.inr ⟨y, hy, e⟩))
  have hmx : s.mb < w.heap.size := h.mp.lt
  have hfo : Fr (Own cb s) w w3 := by
    have f1 : Fr (Own cb s) w (w.alloc o) := (Fr.refl _ _).alloc o
    have f2 := f1.trans (hf2.mono fun k _ (e : k = s.mb) => (.inr (.inl e) : Own cb s k))
    refine ⟨hf3.os.trans f2.os, hf3.tape.trans f2.tape, hf3.output.trans f2.output, Nat.le_trans f2.size hf3.size, fun k hk hn => ?_⟩
    refine (hf3.block k (Nat.lt_of_lt_of_le hk f2.size) ?_).trans (f2.block k hk hn)
    rintro (e | ⟨y, hy, e⟩)
    · exact hn (.inl e)
    · rcases List.mem_cons.1 hy with rfl | hy
      · omega
      · exact hn (.inr (.inr ⟨y, mem_allI.2 ⟨r, hr, hy⟩, e⟩))
  refine ⟨rfl, ⟨ra3, ?_, hnk, h.mc, fun y hy => ?_, ?_, h.rm, h.tg⟩, hfo, hfr⟩
  · refine (mp.fr hf3 ?_).ext fun k => ?_
    · rintro (e | ⟨y, hy, e⟩)
      · exact h.mc e
      · rcases List.mem_cons.1 hy with rfl | hy
        · omega
        · exact h.mi y (mem_allI.2 ⟨r, hr, hy⟩) e
    · show _ = (fk (allI (upd s.R r (s.R r ++ [x]))) k).map _
      rw [fk_perm hp hnk, fk_cons]
      by_cases e : k = x.key
      · subst e; simp
      · rw [if_neg e, if_neg (Ne.symm e)]; rfl
  · rcases hmem y hy with rfl | hy
    · show y.b ≠ s.mb; omega
    · exact h.mi y hy
  · intro y hy d' hd'
    rcases hmem y hy with rfl | hy
    · obtain ⟨hv, hdo⟩ := hd d' hd'
      refine ⟨hv.fr hfo hdo, fun hh => ?_⟩
      rcases hfr _ hh with h2 | h2
      · exact hdo h2
      · have := hv.lt; omega
    · obtain ⟨g1, g2⟩ := h.dt y hy d' hd'
      refine ⟨g1.fr hfo g2, fun hh => ?_⟩
      rcases hfr _ hh with h2 | h2
      · exact g2 h2
      · have := g1.lt; omega
/-- The same rows, laid elsewhere. -/
def ab3 (x : It) : Int × Option Nat × List Value := (x.key, x.d, x.v)
def Cps (L L' : List It) : Prop := L'.map ab3 = L.map ab3
theorem Cps.key {L L' : List It} (h : Cps L L') {y : It} (hy : y ∈ L') : ∃ z ∈ L, z.key = y.key ∧ z.d = y.d ∧ z.v = y.v := by
  have : ab3 y ∈ L.map ab3 := h ▸ List.mem_map_of_mem hy
  obtain ⟨z, hz, e⟩ := List.mem_map.1 this
  simp only [ab3, Prod.mk.injEq] at e
  exact ⟨z, hz, e⟩
theorem Cps.abs {L L' : List It} (h : Cps L L') : L'.map absI = L.map absI := by
  have e : absI = (fun t : Int × Option Nat × List Value => (t.1, t.2.1.map fun _ => byteOf t.2.2)) ∘ ab3 := by funext x; rfl
  rw [e, ← List.map_map, ← List.map_map, h]
theorem Cps.length {L L' : List It} (h : Cps L L') : L'.length = L.length := by
  have := congrArg List.length h
  simpa using this
theorem Cps.snoc {L L' : List It} (h : Cps L L') (x y : It) (hx : ab3 y = ab3 x) : Cps (L ++ [x]) (L' ++ [y]) := by
  unfold Cps at *; simp [h, hx]
/-- How far a copy has come: rows below r are there, of row r what L1 has. -/
structure CI (w0 : World) (s : Cs) (cb : Nat) (r : Nat) (L1 : List It) (wr : World) (s' : Cs) : Prop where
  ca : CA wr cb s'
  lo : ∀ i, i < r → Cps (s.R i) (s'.R i)
  at_ : Cps L1 (s'.R r)
  hi : ∀ i, r < i → i < 4 → s'.R i = []
  rm : s'.room = s.room
  tg : s'.target = s.target
  own : ∀ k, Own cb s' k → w0.heap.size ≤ k
  bl : Below w0.heap.size w0 wr
theorem CI.next {w0 wr w' : World} {s s' : Cs} {cb r : Nat} {L1 : List It} (h : CI w0 s cb r L1 wr s') (hb : Below wr.heap.size wr w') : CI w0 s cb r L1 w' s' :=
  ⟨h.ca.nextb hb, h.lo, h.at_, h.hi, h.rm, h.tg, h.own, h.bl.trans (hb.mono h.bl.size)⟩
theorem CI.row {w0 wr : World} {s s' : Cs} {cb r : Nat} (h : CI w0 s cb r (s.R r) wr s') : r + 1 < 4 → CI w0 s cb (r + 1) [] wr s' := fun h4 =>
  ⟨h.ca, fun i hi => by
    by_cases e : i = r
    · subst e; exact h.at_
    · exact h.lo i (by omega), by rw [Cps, h.hi (r + 1) (by omega) h4], fun i h1 h2 => h.hi i (by omega) h2, h.rm, h.tg, h.own, h.bl⟩
theorem CI.free {w0 wr : World} {s s' : Cs} {cb r : Nat} {L1 L2 : List It} {x : It} (h : CI w0 s cb r L1 wr s') (hr : r < 4) (hR : s.R r = L1 ++ x :: L2) (hn : ((allI s.R).map (·.key)).Nodup) : fk (allI s'.R) x.key = none := by
  refine fk_none fun y hy e => ?_
  obtain ⟨i, hi, hy⟩ := mem_allI.1 hy
  have hx : x ∈ s.R r := by rw [hR]; simp
  rcases Nat.lt_trichotomy i r with h1 | h1 | h1
  · obtain ⟨z, hz, e1, _⟩ := (h.lo i h1).key hy
    have a := where_some hn hi hz (e1.trans e)
    have b := where_some hn hr hx rfl
    rw [a] at b
    have := Option.some.inj b
    omega
  · subst h1
    obtain ⟨z, hz, e1, _⟩ := h.at_.key hy
    have hs := hn.sublist ((row_sub (R := s.R) hr).map _)
    rw [hR, List.map_append, List.map_cons, List.nodup_append] at hs
    exact hs.2.2 z.key (List.mem_map_of_mem hz) x.key (by simp) (e1.trans e)
  · rw [h.hi i h1 hi] at hy; cases hy
theorem CI.step {w0 wr w3 : World} {s s' : Cs} {cb r : Nat} {L1 : List It} {x : It} (h : CI w0 s cb r L1 wr s') (y : It) (hy : ab3 y = ab3 x) (hg : Goes cb s' (addR s' r y) wr (.returned (.tuple #[])) w3) : CI w0 s cb r (L1 ++ [x]) w3 (addR s' r y) := by
  obtain ⟨_, hc, hf, hfr⟩ := hg
  refine ⟨hc, fun i hi => ?_, ?_, fun i h1 h2 => ?_, h.rm, h.tg, fun k hk => ?_, ?_⟩
  · show Cps _ (upd s'.R r _ i)
    rw [upd_ne _ _ (by omega)]; exact h.lo i hi
  · show Cps _ (upd s'.R r _ r)
    rw [upd_same]; exact h.at_.snoc x y hy
  · show upd s'.R r _ i = []
    rw [upd_ne _ _ (by omega)]; exact h.hi i h1 h2
  · rcases hfr k hk with h' | h'
    · exact h.own k h'
    · exact Nat.le_trans h.bl.size h'
  · exact h.bl.trans (Fr.below hf h.bl.size fun k hk => h.own k hk)
theorem CI.pa {w0 wr : World} {s s' : Cs} {cb : Nat} {p : Pu} (h : CI w0 s cb 3 (s.R 3) wr s') (ha : absS s = p) (hd : DV s) (hw : WF p) : PA (· < w0.heap.size) wr cb p := by
  have hc : ∀ i, i < 4 → Cps (s.R i) (s'.R i) := fun i hi => by
    by_cases e : i = 3
    · subst e; exact h.at_
    · exact h.lo i (by omega)
  refine ⟨s', h.ca, ?_, ?_, hw, fun k hk ho => ?_⟩
  · rw [← ha]
    unfold absS
    rw [(hc 0 (by decide)).abs, (hc 1 (by decide)).abs, (hc 2 (by decide)).abs, (hc 3 (by decide)).abs, h.rm, h.tg]
  · intro y hy hs
    obtain ⟨i, hi, hy⟩ := mem_allI.1 hy
    obtain ⟨z, hz, _, e2, e3⟩ := (hc i hi).key hy
    rw [← e3]
    exact hd z (mem_allI.2 ⟨i, hi, hz⟩) (by rw [e2]; exact hs)
  · have := h.own k ho
    omega
theorem newT_ca (w' : World) (cb mb : Nat) (c t : Int) (h1 : 1 ≤ c) (h2 : c ≤ 1024) (t1 : 0 ≤ t) (t2 : t ≤ c) (hrow : RowAt w' cb 69 (cells emptyR (.map (some mb)) c t)) (hmp : MapAt w' mb fun _ => none) (hne : mb ≠ cb) : CA w' cb ⟨emptyR, mb, c, t⟩ := by
  have he : ∀ x : It, x ∉ allI emptyR := by intro x hx; simp [allI, emptyR] at hx
  refine ⟨⟨hrow, fun r _ => trivial, ?_, fun x hx => absurd hx (he x), fun r _ => by simp [emptyR]⟩, ?_, ?_, hne, fun x hx => absurd hx (he x), fun x hx => absurd hx (he x), ⟨h1, h2⟩, ⟨t1, t2⟩⟩
  · simp [allI, emptyR]
  · refine hmp.ext fun k => ?_
    simp [mapOf, allI, emptyR, fk]
  · simp [allI, emptyR]
end Go.Proofs.Ytefjpljjdjecjaa
