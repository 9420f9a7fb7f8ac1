/- have: a key that stands in a row. -/
import Derived.Test.YtefjpljjdjecjaaWf
namespace Go.Proofs.Ytefjpljjdjecjaa
open Go.RowKit
theorem meet_any (w : World) (cb : Nat) (s : Cs) (h : CA w cb s) (hs : Small s) (key : Int) (hk : fk (allI s.R) key = none) (d : Nat) (v : List Value) (hv : RowAt w d 30 v) (hdo : ¬ Own cb s d) :
    Calls Try.prog 39 #[.pointer (some ⟨cb, 0, none⟩), .int .i64 key, .pointer (some ⟨d, 0, none⟩)] w (MeetPost cb s (meetPre s) key d v w) := by
  have n0 := h.ra.len 0 (by decide)
  have n1 := h.ra.len 1 (by decide)
  have n2 := h.ra.len 2 (by decide)
  have n3 := h.ra.len 3 (by decide)
  obtain ⟨r1, r2⟩ := h.rm
  refine meet_go w cb s _ h hs key hk d v hv hdo _ _ _ _ _ (Lib.hid rfl) (Lib.hid rfl) (Lib.hid rfl) (Lib.hid rfl) rfl r1 r2 (by omega) (by omega) (by omega) (by omega) (by omega) (by omega) (by omega) (by omega) ?_
  unfold meetPre all4
  by_cases a1 : s.room ≤ ((s.R 0).length : Int) + (s.R 2).length
  · rw [if_pos a1]
    by_cases a2 : ((s.R 0).length : Int) < s.room
    · exact .inl ⟨a1, a2, if_pos a2⟩
    · exact .inr (.inl ⟨a1, by omega, if_neg a2⟩)
  · rw [if_neg a1]
    by_cases a2 : s.room ≤ ((s.R 0).length : Int) + (s.R 1).length + (s.R 2).length + (s.R 3).length
    · rw [if_pos a2]
      by_cases a3 : 2 * s.room ≤ ((s.R 0).length : Int) + (s.R 1).length + (s.R 2).length + (s.R 3).length
      · exact .inr (.inr (.inl ⟨by omega, a2, a3, by rw [if_pos a3]⟩))
      · exact .inr (.inr (.inr (.inl ⟨by omega, a2, by omega, by rw [if_neg a3]⟩)))
    · exact .inr (.inr (.inr (.inr ⟨by omega, by omega, if_neg a2⟩)))

theorem allI_congr {R R' : Nat → List It} (h : ∀ i, i < 4 → R i = R' i) : allI R = allI R' := by
  unfold allI; rw [h 0 (by decide), h 1 (by decide), h 2 (by decide), h 3 (by decide)]
theorem CA.congr {w : World} {cb : Nat} {s : Cs} {R' : Nat → List It} (h : CA w cb s) (hR : ∀ i, i < 4 → s.R i = R' i) : CA w cb (setR s R') := by
  have ha := allI_congr hR
  have hO : ∀ k, Own cb (setR s R') k ↔ Own cb s k := fun k => by unfold Own setR; rw [ha]
  refine ⟨⟨?_, fun r hr => ?_, ?_, ?_, fun r hr => ?_⟩, ?_, ?_, h.mc, ?_, ?_, h.rm, h.tg⟩
  · have := h.ra.row
    unfold cells at *
    show RowAt w cb 69 (rowCells (R' 0) ++ rowCells (R' 1) ++ rowCells (R' 2) ++ rowCells (R' 3) ++ [.map (some s.mb), .int .i64 s.room, .int .i64 s.target])
    rw [← hR 0 (by decide), ← hR 1 (by decide), ← hR 2 (by decide), ← hR 3 (by decide)]; exact this
  · show Lk w r none (R' r) none
    rw [← hR r hr]; exact h.ra.lk r hr
  · show ((allI R').map (·.b)).Nodup
    rw [← ha]; exact h.ra.nd
  · show ∀ x ∈ allI R', x.b ≠ cb
    rw [← ha]; exact h.ra.ne
  · show (R' r).length ≤ 100000
    rw [← hR r hr]; exact h.ra.len r hr
  · show MapAt w s.mb (mapOf R')
    unfold mapOf; rw [← ha]; exact h.mp
  · show ((allI R').map (·.key)).Nodup
    rw [← ha]; exact h.nk
  · show ∀ x ∈ allI R', x.b ≠ s.mb
    rw [← ha]; exact h.mi
  · show ∀ x ∈ allI R', ∀ d, x.d = some d → RowAt w d 30 x.v ∧ ¬ Own cb (setR s R') d
    rw [← ha]
    intro x hx d hd
    obtain ⟨h1, h2⟩ := h.dt x hx d hd
    exact ⟨h1, fun hh => h2 ((hO d).1 hh)⟩
theorem Goes.congr {cb : Nat} {s s' : Cs} {R' : Nat → List It} {w : World} {e : Ending} {w' : World} (h : Goes cb s s' w e w') (hR : ∀ i, i < 4 → s'.R i = R' i) : Goes cb s (setR s' R') w e w' :=
  ⟨h.1, h.2.1.congr hR, h.2.2.1, fun k hk => h.2.2.2 k (by unfold Own setR at hk; rw [← allI_congr hR] at hk; exact hk)⟩

def rmK (R : Nat → List It) (k : Int) : Nat → List It := fun i => (R i).filter fun y => y.key != k
def moveF (s : Cs) (x : It) : Cs := setR s (upd (rmK s.R x.key) 1 (rmK s.R x.key 1 ++ [x]))
theorem filter_ne {L : List It} {k : Int} (h : ∀ y ∈ L, y.key ≠ k) : L.filter (fun y => y.key != k) = L := by
  rw [List.filter_eq_self]
  intro y hy
  simpa using h y hy
theorem rmK_at {R : Nat → List It} {r : Nat} (hr : r < 4) {L1 : List It} {x : It} {L2 : List It} (hR : R r = L1 ++ x :: L2) (hn : ((allI R).map (·.key)).Nodup) : ∀ i, i < 4 → upd R r (L1 ++ L2) i = rmK R x.key i := by
  have hperm := allI_del hr hR
  have hn' := (hperm.map (·.key)).nodup_iff.1 hn
  simp only [List.map_cons, List.nodup_cons, List.mem_map, not_exists, not_and] at hn'
  have hk : ∀ y ∈ allI (upd R r (L1 ++ L2)), y.key ≠ x.key := fun y hy => hn'.1 y hy
  intro i hi
  unfold rmK
  by_cases e : i = r
  · subst e
    rw [upd_same, hR, List.filter_append, List.filter_cons]
    have h1 : L1.filter (fun y => y.key != x.key) = L1 := filter_ne fun y hy => hk y (mem_allI.2 ⟨i, hi, by rw [upd_same]; exact List.mem_append_left _ hy⟩)
    have h2 : L2.filter (fun y => y.key != x.key) = L2 := filter_ne fun y hy => hk y (mem_allI.2 ⟨i, hi, by rw [upd_same]; exact List.mem_append_right _ hy⟩)
    rw [h1, h2]; simp
  · rw [upd_ne R _ e]
    exact (filter_ne fun y hy => hk y (mem_allI.2 ⟨i, hi, by rw [upd_ne R _ e]; exact hy⟩)).symm

/-- What detach, the store of the data and attach have come to. -/
theorem move_goes {w w1 w2 w3 : World} {cb : Nat} {s : Cs} (h : CA w cb s) {r : Nat} (hr : r < 4) {L1 : List It} {x : It} {L2 : List It} (hR : s.R r = L1 ++ x :: L2) (d : Nat) (v : List Value) (hv : RowAt w d 30 v) (hdo : ¬ Own cb s d)
    (hf1 : Fr (RM cb (s.R r)) w w1) (hf2 : Fr (· = x.b) w1 w2) (ra3 : RA w3 cb (upd (upd s.R r (L1 ++ L2)) 1 (upd s.R r (L1 ++ L2) 1 ++ [{ x with d := some d, v := v }])) (.map (some s.mb)) s.room s.target) (hf3 : Fr (RM cb ({ x with d := some d, v := v } :: upd s.R r (L1 ++ L2) 1)) w2 w3) :
    Goes cb s (moveF s { x with d := some d, v := v }) w (.returned (.tuple #[])) w3 := by
  have hperm := allI_del (R := s.R) hr hR
  have hx : x ∈ allI s.R := hperm.mem_iff.2 (List.mem_cons_self ..)
  have hsub : ∀ y ∈ allI (upd s.R r (L1 ++ L2)), y ∈ allI s.R := fun y hy => hperm.mem_iff.2 (List.mem_cons_of_mem _ hy)
  have hp2 : (allI (upd (upd s.R r (L1 ++ L2)) 1 (upd s.R r (L1 ++ L2) 1 ++ [{ x with d := some d, v := v }]))).Perm ({ x with d := some d, v := v } :: allI (upd s.R r (L1 ++ L2))) := by
    have := allI_ins (R := upd s.R r (L1 ++ L2)) (r := 1) (by decide) (upd s.R r (L1 ++ L2) 1) { x with d := some d, v := v } []
    rwa [List.append_nil, upd_self] at this
  have hnk2 : ((allI (upd (upd s.R r (L1 ++ L2)) 1 (upd s.R r (L1 ++ L2) 1 ++ [{ x with d := some d, v := v }]))).map (·.key)).Nodup := by
    rw [(hp2.map (·.key)).nodup_iff]
    exact (hperm.map (·.key)).nodup_iff.1 h.nk
  have hmem : ∀ y ∈ allI (upd (upd s.R r (L1 ++ L2)) 1 (upd s.R r (L1 ++ L2) 1 ++ [{ x with d := some d, v := v }])), y = { x with d := some d, v := v } ∨ y ∈ allI s.R := fun y hy => by
    rcases List.mem_cons.1 (hp2.mem_iff.1 hy) with rfl | hy
    · exact .inl rfl
    · exact .inr (hsub y hy)
  have hmO : ∀ y ∈ allI (upd (upd s.R r (L1 ++ L2)) 1 (upd s.R r (L1 ++ L2) 1 ++ [{ x with d := some d, v := v }])), ∃ z ∈ allI s.R, z.b = y.b := fun y hy => by
    rcases hmem y hy with rfl | h
    · exact ⟨x, hx, rfl⟩
    · exact ⟨y, h, rfl⟩
  have m1 : ∀ k, RM cb (s.R r) k → Own cb s k := by
    rintro k (e | ⟨y, hy, e⟩)
    · exact .inl e
    · exact .inr (.inr ⟨y, mem_allI.2 ⟨r, hr, hy⟩, e⟩)
  have m2 : ∀ k, k = x.b → Own cb s k := fun k e => .inr (.inr ⟨x, hx, e.symm⟩)
  have m3 : ∀ k, RM cb ({ x with d := some d, v := v } :: upd s.R r (L1 ++ L2) 1) k → Own cb s k := by
    rintro k (e | ⟨y, hy, e⟩)
    · exact .inl e
    · rcases List.mem_cons.1 hy with rfl | hy
      · exact .inr (.inr ⟨x, hx, e⟩)
      · exact .inr (.inr ⟨y, hsub y (mem_allI.2 ⟨1, by decide, hy⟩), e⟩)
  have hmb : ∀ k, k = s.mb → (¬ RM cb (s.R r) k ∧ k ≠ x.b ∧ ¬ RM cb ({ x with d := some d, v := v } :: upd s.R r (L1 ++ L2) 1) k) := by
    rintro k rfl
    refine ⟨?_, Ne.symm (h.mi x hx), ?_⟩
    · rintro (e | ⟨y, hy, e⟩)
      · exact h.mc e
      · exact h.mi y (mem_allI.2 ⟨r, hr, hy⟩) e
    · rintro (e | ⟨y, hy, e⟩)
      · exact h.mc e
      · rcases List.mem_cons.1 hy with rfl | hy
        · exact h.mi x hx e
        · exact h.mi y (hsub y (mem_allI.2 ⟨1, by decide, hy⟩)) e
  have hfo : Fr (Own cb s) w w3 := ((hf1.mono fun k _ => m1 k).trans (hf2.mono fun k _ => m2 k)).trans (hf3.mono fun k _ => m3 k)
  have hg : Goes cb s (setR s (upd (upd s.R r (L1 ++ L2)) 1 (upd s.R r (L1 ++ L2) 1 ++ [{ x with d := some d, v := v }]))) w (.returned (.tuple #[])) w3 := by
    refine ⟨rfl, ⟨ra3, ?_, hnk2, h.mc, fun y hy => ?_, ?_, h.rm, h.tg⟩, hfo, fun k hk => .inl (own_sub hmO hk)⟩
    · refine (((h.mp.fr hf1 (hmb _ rfl).1).fr hf2 (hmb _ rfl).2.1).fr hf3 (hmb _ rfl).2.2).ext fun k => ?_
      show (fk (allI s.R) k).map _ = (fk (allI (upd (upd s.R r (L1 ++ L2)) 1 (upd s.R r (L1 ++ L2) 1 ++ [{ x with d := some d, v := v }]))) k).map _
      rw [fk_perm hp2 hnk2, fk_perm hperm h.nk]
      exact (fk_swap (x := x) (y := { x with d := some d, v := v }) rfl rfl k).symm
    · rcases hmem y hy with rfl | h2
      · exact h.mi x hx
      · exact h.mi y h2
    · intro y hy d' hd'
      rcases hmem y hy with rfl | h2
      · cases hd'
        exact ⟨hv.fr hfo hdo, fun hh => hdo (own_sub hmO hh)⟩
      · obtain ⟨g1, g2⟩ := h.dt y h2 d' hd'
        exact ⟨g1.fr hfo g2, fun hh => g2 (own_sub hmO hh)⟩
  have hrm := rmK_at hr hR h.nk
  refine hg.congr (R' := upd (rmK s.R x.key) 1 (rmK s.R x.key 1 ++ [{ x with d := some d, v := v }])) fun i hi => ?_
  show upd (upd s.R r (L1 ++ L2)) 1 _ i = _
  unfold upd at *
  by_cases e : i = 1
  · rw [if_pos e, if_pos e]
    have := hrm 1 (by decide)
    rw [this]
  · rw [if_neg e, if_neg e]; exact hrm i hi
end Go.Proofs.Ytefjpljjdjecjaa
