/- ArcBounds: the plain law; a slice of steps as it is read. -/
import Derived.Test.YtefjpljjdjecjaaWx
namespace Go.Proofs.Ytefjpljjdjecjaa
open Go.RowKit
/-- A step. -/
structure St where
  kind : Nat
  key : Int
  c : Nat
def St.ok (s : St) : Prop := s.kind < 256 ∧ s.c < 256 ∧ -9223372036854775808 ≤ s.key ∧ s.key ≤ 9223372036854775807
/-- A slice of steps, as it is read. -/
def StepsAt (w : World) (a : Option Addr) (n : Nat) (l : List St) : Prop :=
  l.length = n ∧ (∀ s ∈ l, s.ok) ∧ (n = 0 ∨ ∃ b off, a = some ⟨b, off, none⟩ ∧ b < w.heap.size ∧ ∀ i s, l[i]? = some s →
    w.cell? ⟨b, off + i * 3, none⟩ = some (.int .u8 s.kind) ∧ w.cell? ⟨b, off + i * 3 + 1, none⟩ = some (.int .i64 s.key) ∧ w.cell? ⟨b, off + i * 3 + 2, none⟩ = some (.int .u8 s.c))
theorem StepsAt.next {w w' : World} {a : Option Addr} {n : Nat} {l : List St} (h : StepsAt w a n l) (hb : Below w.heap.size w w') : StepsAt w' a n l := by
  obtain ⟨h1, h2, h3⟩ := h
  refine ⟨h1, h2, ?_⟩
  rcases h3 with h3 | ⟨b, off, e, hl, hc⟩
  · exact .inl h3
  · refine .inr ⟨b, off, e, Nat.lt_of_lt_of_le hl hb.size, fun i s hs => ?_⟩
    rw [hb.cell hl, hb.cell hl, hb.cell hl]
    exact hc i s hs
theorem StepsAt.get {w : World} {a : Option Addr} {n : Nat} {l : List St} (h : StepsAt w a n l) (i : Nat) (hi : i < n) : ∃ b off, a = some ⟨b, off, none⟩ ∧ b < w.heap.size ∧ ∀ i s, l[i]? = some s →
    w.cell? ⟨b, off + i * 3, none⟩ = some (.int .u8 s.kind) ∧ w.cell? ⟨b, off + i * 3 + 1, none⟩ = some (.int .i64 s.key) ∧ w.cell? ⟨b, off + i * 3 + 2, none⟩ = some (.int .u8 s.c) := by
  rcases h.2.2 with h | h
  · omega
  · exact h
/-- Of the rows of blocks there is not more than there was. -/
def SubAB (p q : Pu) : Prop := (∀ e ∈ q.a, e ∈ p.a) ∧ (∀ e ∈ q.b, e ∈ p.b) ∧ q.room = p.room
theorem SubAB.refl (p : Pu) : SubAB p p := ⟨fun _ h => h, fun _ h => h, rfl⟩
theorem SubAB.trans {p q r : Pu} (h : SubAB p q) (k : SubAB q r) : SubAB p r := ⟨fun e he => h.1 e (k.1 e he), fun e he => h.2.1 e (k.2.1 e he), k.2.2.trans h.2.2⟩
theorem sub_ghost02 (p : Pu) : SubAB p (ghost02 p) := by
  unfold ghost02
  split
  · exact SubAB.refl p
  · rename_i x L hp
    exact ⟨fun e he => by rw [hp]; exact List.mem_cons_of_mem _ he, fun _ h => h, rfl⟩
theorem sub_ghost13 (p : Pu) : SubAB p (ghost13 p) := by
  unfold ghost13
  split
  · exact SubAB.refl p
  · rename_i x L hp
    exact ⟨fun _ h => h, fun e he => by rw [hp]; exact List.mem_cons_of_mem _ he, rfl⟩
theorem sub_room (p : Pu) (g : Bool) : SubAB p (roomP p g) := by
  unfold roomP
  split
  · exact SubAB.refl p
  · split
    · exact sub_ghost02 p
    · exact sub_ghost13 p
theorem sub_meet (p : Pu) : SubAB p (meetPreP p) := by
  unfold meetPreP
  split
  · split
    · exact (show SubAB p { p with c := p.c.tail } from ⟨fun _ h => h, fun _ h => h, rfl⟩).trans (sub_room _ _)
    · exact ⟨fun e he => List.mem_of_mem_tail he, fun _ h => h, rfl⟩
  · split
    · refine SubAB.trans ?_ (sub_room _ _)
      split
      · exact ⟨fun _ h => h, fun _ h => h, rfl⟩
      · exact SubAB.refl p
    · exact SubAB.refl p
theorem sub_have (p : Pu) (r : Nat) : SubAB p (havePreP p r) := by
  unfold havePreP
  split
  · exact (show SubAB p { p with target := adjP2 p } from ⟨fun _ h => h, fun _ h => h, rfl⟩).trans (sub_room _ _)
  · split
    · exact (show SubAB p { p with target := adjP3 p } from ⟨fun _ h => h, fun _ h => h, rfl⟩).trans (sub_room _ _)
    · exact SubAB.refl p
theorem putP_room (p : Pu) (k c : Int) : (putP p k c).room = p.room := by
  unfold putP
  split
  · exact (sub_meet p).2.2
  · exact (sub_have p _).2.2
theorem getP_room (p : Pu) (k : Int) : (getP p k).room = p.room := by
  unfold getP
  split <;> rfl
/-- Each block that is there is as f says. -/
def EV (p : Pu) (f : Int → Option Int) : Prop := ∀ e, (e ∈ p.a ∨ e ∈ p.b) → ∀ c, e.2 = some c → f e.1 = some c
theorem EV.congr {p : Pu} {f g : Int → Option Int} (h : EV p f) (hg : ∀ k, g k = f k) : EV p g := fun e he c hc => by rw [hg]; exact h e he c hc
theorem rmL_ne {l : List (Int × Option Int)} {k : Int} {e : Int × Option Int} (h : e ∈ rmL l k) : e.1 ≠ k := by
  have := (List.mem_filter.1 h).2
  simpa using this
theorem EV.move {p q : Pu} {f : Int → Option Int} (h : EV p f) (hs : SubAB p q) (k c : Int) : EV (moveP q k (some c)) (fun j => if j = k then some c else f j) := by
  intro e he d hd
  rcases he with he | he
  · simp only [if_neg (rmL_ne he)]
    exact h e (.inl (hs.1 e (mem_rmL he))) d hd
  · rcases List.mem_append.1 he with he | he
    · simp only [if_neg (rmL_ne he)]
      exact h e (.inr (hs.2.1 e (mem_rmL he))) d hd
    · simp at he; subst he
      simp only [if_pos]
      exact hd
theorem EV.put {p : Pu} {f : Int → Option Int} (h : EV p f) (k c : Int) : EV (putP p k c) (fun j => if j = k then some c else f j) := by
  cases hw : whereP p k with
  | none =>
    have hna : k ∉ ksP p.a ∧ k ∉ ksP p.b := by
      unfold whereP at hw
      split at hw
      · cases hw
      · split at hw
        · cases hw
        · rename_i h1 h2
          exact ⟨fun hm => h1 ((has_iff _ _).2 hm), fun hm => h2 ((has_iff _ _).2 hm)⟩
    rw [show putP p k c = newP (meetPreP p) k (some c) from by unfold putP; rw [hw]]
    intro e he d hd
    rcases he with he | he
    · rcases List.mem_append.1 he with he | he
      · have hm := (sub_meet p).1 e he
        simp only [if_neg (show e.1 ≠ k from fun hk => hna.1 (hk ▸ List.mem_map_of_mem hm))]
        exact h e (.inl hm) d hd
      · simp at he; subst he
        simp only [if_pos]
        exact hd
    · have hm := (sub_meet p).2.1 e he
      simp only [if_neg (show e.1 ≠ k from fun hk => hna.2 (hk ▸ List.mem_map_of_mem hm))]
      exact h e (.inr hm) d hd
  | some r =>
    rw [show putP p k c = moveP (havePreP p r) k (some c) from by unfold putP; rw [hw]]
    exact h.move (sub_have p r) k c
theorem EV.look {p : Pu} {f : Int → Option Int} (h : EV p f) {k c : Int} (hl : lookP p k = some c) : f k = some c := by
  unfold lookP at hl
  obtain ⟨y, hf, hy⟩ := Option.bind_eq_some_iff.1 hl
  have hk : y.1 = k := by simpa using List.find?_some hf
  have := h y (List.mem_append.1 (List.mem_of_find?_eq_some hf)) c hy
  rwa [hk] at this
theorem EV.get {p : Pu} {f : Int → Option Int} (h : EV p f) (k : Int) : EV (getP p k) f := by
  unfold getP
  split
  · rename_i c hl
    refine (h.move (SubAB.refl p) k c).congr fun j => ?_
    by_cases e : j = k
    · subst e; simp [h.look hl]
    · simp [e]
  · exact h
theorem EV.rm {p : Pu} {f : Int → Option Int} (h : EV p f) (k : Int) : EV (rmP p k) (fun j => if j = k then none else f j) := by
  intro e he d hd
  rcases he with he | he
  · simp only [if_neg (rmL_ne he)]
    exact h e (.inl (mem_rmL he)) d hd
  · simp only [if_neg (rmL_ne he)]
    exact h e (.inr (mem_rmL he)) d hd
theorem EV.not {p : Pu} {f : Int → Option Int} (h : EV p f) (k : Int) (hk : whereP p k = none) : EV p (fun j => if j = k then none else f j) := by
  have hna : k ∉ ksP p.a ∧ k ∉ ksP p.b := by
    unfold whereP at hk
    split at hk
    · cases hk
    · split at hk
      · cases hk
      · rename_i h1 h2
        exact ⟨fun hm => h1 ((has_iff _ _).2 hm), fun hm => h2 ((has_iff _ _).2 hm)⟩
  intro e he d hd
  have hne : e.1 ≠ k := by
    rintro rfl
    rcases he with he | he
    · exact hna.1 (List.mem_map_of_mem he)
    · exact hna.2 (List.mem_map_of_mem he)
  simp only [if_neg hne]
  exact h e he d hd
/-- Where the last block of a key was put, by the first n steps; -1: nowhere. -/
def atOf (l : List St) (key : Int) : Nat → Int
  | 0 => -1
  | k + 1 => match l[k]? with
    | none => atOf l key k
    | some x => if x.key = key ∧ x.kind % 4 = 2 then -1 else if x.key = key ∧ (x.kind % 4 = 0 ∨ x.kind % 4 = 3) then k else atOf l key k
theorem atOf_in (l : List St) (key : Int) : ∀ n, n ≤ l.length → -1 ≤ atOf l key n ∧ atOf l key n < n
  | 0, _ => by simp [atOf]
  | k + 1, h => by
    have ih := atOf_in l key k (by omega)
    unfold atOf
    split
    · omega
    · split
      · omega
      · split
        · omega
        · omega
def valOf (l : List St) (n : Nat) (key : Int) : Option Int := if atOf l key n < 0 then none else (l[(atOf l key n).toNat]?).map fun s => (s.c : Int)
theorem valOf_zero (l : List St) (key : Int) : valOf l 0 key = none := by simp [valOf, atOf]
theorem valOf_put {l : List St} {n : Nat} {x : St} (hx : l[n]? = some x) (h : x.kind % 4 = 0 ∨ x.kind % 4 = 3) (key : Int) : valOf l (n + 1) key = if key = x.key then some (x.c : Int) else valOf l n key := by
  unfold valOf
  rw [show atOf l key (n + 1) = if x.key = key then (n : Int) else atOf l key n from by
    rw [atOf, hx]
    simp only []
    rw [if_neg (by omega)]
    by_cases e : x.key = key
    · rw [if_pos ⟨e, h⟩, if_pos e]
    · rw [if_neg (fun hh => e hh.1), if_neg e]]
  by_cases e : x.key = key
  · subst e
    simp only [if_pos]
    rw [if_neg (by omega)]
    simp [hx]
  · simp only [if_neg e, if_neg (Ne.symm e)]
theorem valOf_get {l : List St} {n : Nat} {x : St} (hx : l[n]? = some x) (h : x.kind % 4 = 1) (key : Int) : valOf l (n + 1) key = valOf l n key := by
  unfold valOf
  rw [show atOf l key (n + 1) = atOf l key n from by
    rw [atOf, hx]
    simp only []
    rw [if_neg (by omega), if_neg (by omega)]]
theorem valOf_drop {l : List St} {n : Nat} {x : St} (hx : l[n]? = some x) (h : x.kind % 4 = 2) (key : Int) : valOf l (n + 1) key = if key = x.key then none else valOf l n key := by
  unfold valOf
  rw [show atOf l key (n + 1) = if x.key = key then -1 else atOf l key n from by
    rw [atOf, hx]
    simp only []
    by_cases e : x.key = key
    · rw [if_pos ⟨e, h⟩, if_pos e]
    · rw [if_neg (fun hh => e hh.1), if_neg (fun hh => e hh.1), if_neg e]]
  by_cases e : x.key = key
  · subst e
    simp
  · simp only [if_neg e, if_neg (Ne.symm e)]
end Go.Proofs.Ytefjpljjdjecjaa
