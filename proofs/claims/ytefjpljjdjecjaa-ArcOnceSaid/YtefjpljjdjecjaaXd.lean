/- ArcOnce: the plain law. -/
import Derived.Test.YtefjpljjdjecjaaXa
namespace Go.Proofs.Ytefjpljjdjecjaa
open Go.RowKit
/-- All keys are below n. -/
structure KB (n : Int) (p : Pu) : Prop where
  a : ∀ e ∈ p.a, e.1 < n
  b : ∀ e ∈ p.b, e.1 < n
  c : ∀ e ∈ p.c, e.1 < n
  d : ∀ e ∈ p.d, e.1 < n
theorem KB.mono {n m : Int} {p : Pu} (h : KB n p) (hm : n ≤ m) : KB m p :=
  ⟨fun e he => Int.lt_of_lt_of_le (h.a e he) hm, fun e he => Int.lt_of_lt_of_le (h.b e he) hm, fun e he => Int.lt_of_lt_of_le (h.c e he) hm, fun e he => Int.lt_of_lt_of_le (h.d e he) hm⟩
theorem KB.ghost02 {n : Int} {p : Pu} (h : KB n p) : KB n (ghost02 p) := by
  unfold Ytefjpljjdjecjaa.ghost02
  cases hp : p.a with
  | nil => exact h
  | cons x L =>
    have ha := h.a
    rw [hp] at ha
    exact ⟨fun e he => ha e (List.mem_cons_of_mem _ he), h.b, forall_snoc h.c (ha x (List.mem_cons_self ..)), h.d⟩
theorem KB.ghost13 {n : Int} {p : Pu} (h : KB n p) : KB n (ghost13 p) := by
  unfold Ytefjpljjdjecjaa.ghost13
  cases hp : p.b with
  | nil => exact h
  | cons x L =>
    have hb := h.b
    rw [hp] at hb
    exact ⟨h.a, fun e he => hb e (List.mem_cons_of_mem _ he), h.c, forall_snoc h.d (hb x (List.mem_cons_self ..))⟩
theorem KB.room {n : Int} {p : Pu} (h : KB n p) (g : Bool) : KB n (roomP p g) := by
  unfold roomP
  split
  · exact h
  · split
    · exact h.ghost02
    · exact h.ghost13
theorem KB.meet {n : Int} {p : Pu} (h : KB n p) : KB n (meetPreP p) := by
  unfold meetPreP
  split
  · split
    · exact KB.room (p := { p with c := p.c.tail }) ⟨h.a, h.b, forall_tail h.c, h.d⟩ _
    · exact ⟨forall_tail h.a, h.b, h.c, h.d⟩
  · split
    · refine KB.room ?_ _
      split
      · exact ⟨h.a, h.b, h.c, forall_tail h.d⟩
      · exact h
    · exact h
theorem KB.have {n : Int} {p : Pu} (h : KB n p) (r : Nat) : KB n (havePreP p r) := by
  unfold havePreP
  split
  · exact KB.room (p := { p with target := adjP2 p }) ⟨h.a, h.b, h.c, h.d⟩ _
  · split
    · exact KB.room (p := { p with target := adjP3 p }) ⟨h.a, h.b, h.c, h.d⟩ _
    · exact h
theorem KB.rm {n : Int} {p : Pu} (h : KB n p) (k : Int) : KB n (rmP p k) :=
  ⟨fun e he => h.a e (mem_rmL he), fun e he => h.b e (mem_rmL he), fun e he => h.c e (mem_rmL he), fun e he => h.d e (mem_rmL he)⟩
theorem KB.move {n : Int} {p : Pu} (h : KB n p) {k : Int} (hk : k < n) (o : Option Int) : KB n (moveP p k o) :=
  ⟨fun e he => h.a e (mem_rmL he), forall_snoc (fun e he => h.b e (mem_rmL he)) hk, fun e he => h.c e (mem_rmL he), fun e he => h.d e (mem_rmL he)⟩
theorem KB.put {n : Int} {p : Pu} (h : KB n p) {k : Int} (hk : k < n) (c : Int) : KB n (putP p k c) := by
  unfold putP
  split
  · exact ⟨forall_snoc h.meet.a hk, h.meet.b, h.meet.c, h.meet.d⟩
  · exact (h.have _).move hk _
theorem KB.get {n : Int} {p : Pu} (h : KB n p) {k : Int} (hk : k < n) : KB n (getP p k) := by
  unfold getP
  split
  · exact h.move hk _
  · exact h
theorem KB.new (n c : Int) : KB n (newPu c) := ⟨fun e he => by simp [newPu] at he, fun e he => by simp [newPu] at he, fun e he => by simp [newPu] at he, fun e he => by simp [newPu] at he⟩
theorem KB.none {n : Int} {p : Pu} (h : KB n p) {k : Int} (hk : n ≤ k) : whereP p k = none := by
  have no : ∀ l : List (Int × Option Int), (∀ e ∈ l, e.1 < n) → ¬ hasK l k = true := fun l hl hh => by
    unfold hasK at hh
    rw [List.any_eq_true] at hh
    obtain ⟨e, he, hek⟩ := hh
    have := hl e he
    have : e.1 = k := by simpa using hek
    omega
  unfold whereP
  rw [if_neg (no _ h.a), if_neg (no _ h.b), if_neg (no _ h.c), if_neg (no _ h.d)]
theorem room_once {p : Pu} (ht : p.target = 0) (hb : (p.b.length : Int) < p.room) : (roomP p false).b = p.b ∧ (roomP p false).target = 0 := by
  unfold roomP
  split
  · exact ⟨rfl, ht⟩
  · rename_i h
    have ha : 0 < (p.a.length : Int) := by omega
    rw [if_pos ⟨ha, .inr (.inl (by omega))⟩]
    unfold ghost02
    split
    · exact ⟨rfl, ht⟩
    · exact ⟨rfl, ht⟩
theorem put_once {p : Pu} {k : Int} (hk : whereP p k = none) (ht : p.target = 0) (hb : (p.b.length : Int) < p.room) (c : Int) : (putP p k c).b = p.b ∧ (putP p k c).target = 0 := by
  unfold putP
  rw [hk]
  show (meetPreP p).b = p.b ∧ (meetPreP p).target = 0
  unfold meetPreP
  split
  · split
    · exact room_once (p := { p with c := p.c.tail }) ht hb
    · exact ⟨rfl, ht⟩
  · split
    · split
      · exact room_once (p := { p with d := p.d.tail }) ht hb
      · exact room_once ht hb
    · exact ⟨rfl, ht⟩
theorem look_put {p : Pu} {k : Int} (hk : whereP p k = none) (c : Int) (hn : NK (putP p k c)) : lookP (putP p k c) k = some c := by
  unfold putP at *
  rw [hk] at *
  have h : k ∉ ksP (meetPreP p).a := fun hm => by
    unfold NK at hn
    have := (List.nodup_append.1 (List.nodup_append.1 (List.nodup_append.1 hn).1).1).1
    simp only [newP, ksP, List.map_append, List.map_cons, List.map_nil] at this
    have := (List.nodup_append.1 this).2.2 k hm k (by simp)
    exact this rfl
  unfold lookP newP
  have hf : (meetPreP p).a.find? (fun y => y.1 == k) = Option.none := by
    rw [List.find?_eq_none]
    intro y hy e
    exact h (List.mem_map.2 ⟨y, hy, by simpa using e⟩)
  simp only [List.append_assoc, List.find?_append, hf]
  simp
/-- What is so of a cache before more keys are put. -/
structure OI (m : Int) (p0 p : Pu) : Prop where
  kb : KB m p
  tg : p.target = 0
  b : p.b = p0.b
  rm : p.room = p0.room
theorem OI.put {m : Int} {p0 p : Pu} (h : OI m p0 p) (hl : (p0.b.length : Int) < p0.room) (c : Int) : OI (m + 1) p0 (putP p m c) := by
  have hk := h.kb.none (Int.le_refl m)
  obtain ⟨e1, e2⟩ := put_once hk h.tg (by rw [h.b, h.rm]; exact hl) c
  exact ⟨(h.kb.mono (by omega)).put (by omega) c, e2, e1.trans h.b, (putP_room _ _ _).trans h.rm⟩
end Go.Proofs.Ytefjpljjdjecjaa
