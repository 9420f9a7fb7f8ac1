/- The bounds of a cache, as plain lists. -/
import Derived.Test.YtefjpljjdjecjaaWo
namespace Go.Proofs.Ytefjpljjdjecjaa
open Go.RowKit
structure WF (p : Pu) : Prop where
  fa : ∀ e ∈ p.a, e.2.isSome
  fb : ∀ e ∈ p.b, e.2.isSome
  fc : ∀ e ∈ p.c, e.2 = none
  fd : ∀ e ∈ p.d, e.2 = none
  h1 : (p.a.length : Int) + p.b.length ≤ p.room
  h2 : (p.a.length : Int) + p.c.length ≤ p.room
  h3 : (p.a.length : Int) + p.b.length + p.c.length + p.d.length ≤ 2 * p.room
  rm : 1 ≤ p.room ∧ p.room ≤ 1024
  tg : 0 ≤ p.target ∧ p.target ≤ p.room
theorem room_cases (p : Pu) (g : Bool) (hr : 1 ≤ p.room) :
    ((p.a.length : Int) + p.b.length < p.room ∧ roomP p g = p) ∨ (p.room ≤ (p.a.length : Int) + p.b.length ∧ ∃ x L, p.a = x :: L ∧ roomP p g = { p with a := L, c := p.c ++ [(x.1, none)] }) ∨ (p.room ≤ (p.a.length : Int) + p.b.length ∧ ∃ x L, p.b = x :: L ∧ roomP p g = { p with b := L, d := p.d ++ [(x.1, none)] }) := by
  unfold roomP
  by_cases c1 : (p.a.length : Int) + p.b.length < p.room
  · exact .inl ⟨c1, if_pos c1⟩
  · rw [if_neg c1]
    by_cases c2 : 0 < (p.a.length : Int) ∧ ((p.b.length : Int) = 0 ∨ p.target < p.a.length ∨ (g = true ∧ (p.a.length : Int) = p.target))
    · rw [if_pos c2]
      refine .inr (.inl ⟨by omega, ?_⟩)
      cases ha : p.a with
      | nil => rw [ha] at c2; simp at c2
      | cons x L => exact ⟨x, L, rfl, by unfold ghost02; rw [ha]⟩
    · rw [if_neg c2]
      refine .inr (.inr ⟨by omega, ?_⟩)
      cases hb : p.b with
      | nil =>
        rw [hb] at c1 c2
        simp only [List.length_nil] at c1 c2
        exact absurd ⟨by omega, .inl rfl⟩ c2
      | cons x L => exact ⟨x, L, rfl, by unfold ghost13; rw [hb]⟩
theorem forall_tail {l : List (Int × Option Int)} {P : Int × Option Int → Prop} (h : ∀ e ∈ l, P e) : ∀ e ∈ l.tail, P e := fun e he => h e (List.mem_of_mem_tail he)
theorem forall_snoc {l : List (Int × Option Int)} {x : Int × Option Int} {P : Int × Option Int → Prop} (h : ∀ e ∈ l, P e) (hx : P x) : ∀ e ∈ l ++ [x], P e := fun e he => by
  rcases List.mem_append.1 he with h' | h'
  · exact h e h'
  · simp at h'; subst h'; exact hx
/-- All but the bounds. -/
structure WG (p : Pu) : Prop where
  fa : ∀ e ∈ p.a, e.2.isSome
  fb : ∀ e ∈ p.b, e.2.isSome
  fc : ∀ e ∈ p.c, e.2 = none
  fd : ∀ e ∈ p.d, e.2 = none
  rm : 1 ≤ p.room ∧ p.room ≤ 1024
  tg : 0 ≤ p.target ∧ p.target ≤ p.room
theorem WF.g {p : Pu} (h : WF p) : WG p := ⟨h.fa, h.fb, h.fc, h.fd, h.rm, h.tg⟩
theorem WG.room {p : Pu} (h : WG p) (g : Bool) : WG (roomP p g) := by
  rcases room_cases p g h.rm.1 with ⟨_, e⟩ | ⟨_, x, L, hx, e⟩ | ⟨_, x, L, hx, e⟩
  · rw [e]; exact h
  · rw [e]
    have ha := h.fa
    rw [hx] at ha
    exact ⟨fun e he => ha e (List.mem_cons_of_mem _ he), h.fb, forall_snoc h.fc rfl, h.fd, h.rm, h.tg⟩
  · rw [e]
    have hb := h.fb
    rw [hx] at hb
    exact ⟨h.fa, fun e he => hb e (List.mem_cons_of_mem _ he), h.fc, forall_snoc h.fd rfl, h.rm, h.tg⟩
theorem WG.meet {p : Pu} (h : WG p) : WG (meetPreP p) := by
  unfold meetPreP
  split
  · split
    · exact WG.room (p := { p with c := p.c.tail }) ⟨h.fa, h.fb, forall_tail h.fc, h.fd, h.rm, h.tg⟩ _
    · exact ⟨forall_tail h.fa, h.fb, h.fc, h.fd, h.rm, h.tg⟩
  · split
    · refine WG.room ?_ _
      split
      · exact ⟨h.fa, h.fb, h.fc, forall_tail h.fd, h.rm, h.tg⟩
      · exact h
    · exact h
theorem adjP_in {p : Pu} (h : WG p) : (0 ≤ adjP2 p ∧ adjP2 p ≤ p.room) ∧ 0 ≤ adjP3 p ∧ adjP3 p ≤ p.room := by
  have := h.rm; have := h.tg
  unfold adjP2 adjP3
  omega
theorem WG.have {p : Pu} (h : WG p) (r : Nat) : WG (havePreP p r) := by
  obtain ⟨a2, a3⟩ := adjP_in h
  unfold havePreP
  split
  · exact WG.room (p := { p with target := adjP2 p }) ⟨h.fa, h.fb, h.fc, h.fd, h.rm, a2⟩ _
  · split
    · exact WG.room (p := { p with target := adjP3 p }) ⟨h.fa, h.fb, h.fc, h.fd, h.rm, a3⟩ _
    · exact h
theorem mem_rmL {l : List (Int × Option Int)} {k : Int} {e : Int × Option Int} (h : e ∈ rmL l k) : e ∈ l := (List.mem_filter.1 h).1
theorem WG.move {p : Pu} (h : WG p) (k c : Int) : WG (moveP p k (some c)) :=
  ⟨fun e he => h.fa e (mem_rmL he), forall_snoc (fun e he => h.fb e (mem_rmL he)) rfl, fun e he => h.fc e (mem_rmL he), fun e he => h.fd e (mem_rmL he), h.rm, h.tg⟩
theorem WG.new {p : Pu} (h : WG p) (k c : Int) : WG (newP p k (some c)) := ⟨forall_snoc h.fa rfl, h.fb, h.fc, h.fd, h.rm, h.tg⟩
theorem WF.of {p : Pu} (h : WG p) (h1 : (p.a.length : Int) + p.b.length ≤ p.room) (h2 : (p.a.length : Int) + p.c.length ≤ p.room) (h3 : (p.a.length : Int) + p.b.length + p.c.length + p.d.length ≤ 2 * p.room) : WF p :=
  ⟨h.fa, h.fb, h.fc, h.fd, h1, h2, h3, h.rm, h.tg⟩
theorem WF.new {p : Pu} (h : WF p) (k c : Int) : WF (newP (meetPreP p) k (some c)) := by
  refine WF.of (h.g.meet.new k c) ?_ ?_ ?_
  all_goals
    obtain ⟨h1, h2, h3, ⟨r1, r2⟩⟩ := (⟨h.h1, h.h2, h.h3, h.rm⟩ : _ ∧ _ ∧ _ ∧ _)
    unfold meetPreP
    by_cases c1 : p.room ≤ (p.a.length : Int) + p.c.length
    · rw [if_pos c1]
      by_cases c2 : (p.a.length : Int) < p.room
      · rw [if_pos c2]
        rcases room_cases { p with c := p.c.tail } false r1 with ⟨g, e⟩ | ⟨g, x, L, hx, e⟩ | ⟨g, x, L, hx, e⟩
        · rw [e]; simp only [newP, List.length_append, List.length_cons, List.length_nil, List.length_tail] at g ⊢; omega
        · rw [e]
          have hl := congrArg List.length hx
          simp only [newP, List.length_append, List.length_cons, List.length_nil, List.length_tail] at g hl ⊢; omega
        · rw [e]
          have hl := congrArg List.length hx
          simp only [newP, List.length_append, List.length_cons, List.length_nil, List.length_tail] at g hl ⊢; omega
      · rw [if_neg c2]
        simp only [newP, List.length_append, List.length_cons, List.length_nil, List.length_tail]; omega
    · rw [if_neg c1]
      unfold allP
      by_cases c2 : p.room ≤ (p.a.length : Int) + p.b.length + p.c.length + p.d.length
      · rw [if_pos c2]
        by_cases c3 : 2 * p.room ≤ (p.a.length : Int) + p.b.length + p.c.length + p.d.length
        · rw [if_pos c3]
          rcases room_cases { p with d := p.d.tail } false r1 with ⟨g, e⟩ | ⟨g, x, L, hx, e⟩ | ⟨g, x, L, hx, e⟩
          · rw [e]; simp only [newP, List.length_append, List.length_cons, List.length_nil, List.length_tail] at g ⊢; omega
          · rw [e]
            have hl := congrArg List.length hx
            simp only [newP, List.length_append, List.length_cons, List.length_nil, List.length_tail] at g hl ⊢; omega
          · rw [e]
            have hl := congrArg List.length hx
            simp only [newP, List.length_append, List.length_cons, List.length_nil, List.length_tail] at g hl ⊢; omega
        · rw [if_neg c3]
          rcases room_cases p false r1 with ⟨g, e⟩ | ⟨g, x, L, hx, e⟩ | ⟨g, x, L, hx, e⟩
          · rw [e]; simp only [newP, List.length_append, List.length_cons, List.length_nil] at g ⊢; omega
          · rw [e]
            have hl := congrArg List.length hx
            simp only [newP, List.length_append, List.length_cons, List.length_nil] at g hl ⊢; omega
          · rw [e]
            have hl := congrArg List.length hx
            simp only [newP, List.length_append, List.length_cons, List.length_nil] at g hl ⊢; omega
      · rw [if_neg c2]
        simp only [newP, List.length_append, List.length_cons, List.length_nil]; omega
theorem rmL_le (l : List (Int × Option Int)) (k : Int) : (rmL l k).length ≤ l.length := List.length_filter_le _ _
theorem rmL_lt {l : List (Int × Option Int)} {k : Int} (h : hasK l k = true) : (rmL l k).length + 1 ≤ l.length := by
  induction l with
  | nil => cases h
  | cons x l ih =>
    unfold rmL hasK at *
    rw [List.filter_cons]
    by_cases e : x.1 = k
    · have := List.length_filter_le (fun y : Int × Option Int => y.1 != k) l
      simp [e]; omega
    · rw [List.any_cons] at h
      have h' : (l.any fun y => y.1 == k) = true := by simpa [e] using h
      have := ih h'
      simp [e]; omega
theorem where_has {p : Pu} {k : Int} {r : Nat} (h : whereP p k = some r) : (r = 0 ∧ hasK p.a k = true) ∨ (r = 1 ∧ hasK p.b k = true) ∨ (r = 2 ∧ hasK p.c k = true) ∨ (r = 3 ∧ hasK p.d k = true) := by
  unfold whereP at h
  split at h
  · rename_i hh; cases h; exact .inl ⟨rfl, hh⟩
  · split at h
    · rename_i hh; cases h; exact .inr (.inl ⟨rfl, hh⟩)
    · split at h
      · rename_i hh; cases h; exact .inr (.inr (.inl ⟨rfl, hh⟩))
      · split at h
        · rename_i hh; cases h; exact .inr (.inr (.inr ⟨rfl, hh⟩))
        · cases h
theorem has_snoc {l : List (Int × Option Int)} {k : Int} {x : Int × Option Int} (h : hasK l k = true) : hasK (l ++ [x]) k = true := by
  unfold hasK at *; rw [List.any_append, h]; rfl
theorem WF.move {p : Pu} (h : WF p) {k : Int} (c : Int) {r : Nat} (hr : whereP p k = some r) : WF (moveP (havePreP p r) k (some c)) := by
  refine WF.of ((h.g.have r).move k c) ?_ ?_ ?_
  all_goals
    obtain ⟨h1, h2, h3, ⟨r1, r2⟩⟩ := (⟨h.h1, h.h2, h.h3, h.rm⟩ : _ ∧ _ ∧ _ ∧ _)
    have la := rmL_le p.a k
    have lb := rmL_le p.b k
    have lc := rmL_le p.c k
    have ld := rmL_le p.d k
    rcases where_has hr with ⟨rfl, hh⟩ | ⟨rfl, hh⟩ | ⟨rfl, hh⟩ | ⟨rfl, hh⟩
    · have := rmL_lt hh
      simp only [havePreP, moveP, rmP, List.length_append, List.length_cons, List.length_nil]
      simp; omega
    · have := rmL_lt hh
      simp only [havePreP, moveP, rmP, List.length_append, List.length_cons, List.length_nil]
      simp; omega
    · have hl1 := rmL_lt hh
      unfold havePreP
      rw [if_pos rfl]
      rcases room_cases { p with target := adjP2 p } false r1 with ⟨g, e⟩ | ⟨g, x, L, hx, e⟩ | ⟨g, x, L, hx, e⟩
      · rw [e]; simp only [moveP, rmP, List.length_append, List.length_cons, List.length_nil] at g ⊢; omega
      · rw [e]
        have hl := congrArg List.length hx
        have hl2 := rmL_lt (has_snoc (x := (x.1, none)) hh)
        have hl3 := rmL_le L k
        simp only [moveP, rmP, List.length_append, List.length_cons, List.length_nil] at g hl hl2 ⊢; omega
      · rw [e]
        have hl := congrArg List.length hx
        have hl2 := rmL_le (p.d ++ [(x.1, none)]) k
        have hl3 := rmL_le L k
        simp only [moveP, rmP, List.length_append, List.length_cons, List.length_nil] at g hl hl2 ⊢; omega
    · have hl1 := rmL_lt hh
      unfold havePreP
      rw [if_neg (by decide), if_pos rfl]
      rcases room_cases { p with target := adjP3 p } true r1 with ⟨g, e⟩ | ⟨g, x, L, hx, e⟩ | ⟨g, x, L, hx, e⟩
      · rw [e]; simp only [moveP, rmP, List.length_append, List.length_cons, List.length_nil] at g ⊢; omega
      · rw [e]
        have hl := congrArg List.length hx
        have hl2 := rmL_le (p.c ++ [(x.1, none)]) k
        have hl3 := rmL_le L k
        simp only [moveP, rmP, List.length_append, List.length_cons, List.length_nil] at g hl hl2 ⊢; omega
      · rw [e]
        have hl := congrArg List.length hx
        have hl2 := rmL_lt (has_snoc (x := (x.1, none)) hh)
        have hl3 := rmL_le L k
        simp only [moveP, rmP, List.length_append, List.length_cons, List.length_nil] at g hl hl2 ⊢; omega
theorem WF.put {p : Pu} (h : WF p) (k c : Int) : WF (putP p k c) := by
  unfold putP
  split
  · exact h.new k c
  · rename_i r hr; exact h.move c hr
theorem WF.rm' {p : Pu} (h : WF p) (k : Int) : WF (rmP p k) := by
  have la := rmL_le p.a k
  have lb := rmL_le p.b k
  have lc := rmL_le p.c k
  have ld := rmL_le p.d k
  obtain ⟨h1, h2, h3⟩ := (⟨h.h1, h.h2, h.h3⟩ : _ ∧ _ ∧ _)
  refine ⟨fun e he => h.fa e (mem_rmL he), fun e he => h.fb e (mem_rmL he), fun e he => h.fc e (mem_rmL he), fun e he => h.fd e (mem_rmL he), ?_, ?_, ?_, h.rm, h.tg⟩
  all_goals (simp only [rmP]; omega)
end Go.Proofs.Ytefjpljjdjecjaa
