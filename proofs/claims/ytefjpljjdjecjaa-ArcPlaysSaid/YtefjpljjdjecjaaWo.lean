/- A cache as plain lists. -/
import Derived.Test.YtefjpljjdjecjaaWn
namespace Go.Proofs.Ytefjpljjdjecjaa
open Go.RowKit
structure Pu where
  a : List (Int × Option Int)
  b : List (Int × Option Int)
  c : List (Int × Option Int)
  d : List (Int × Option Int)
  room : Int
  target : Int
def ghost02 (p : Pu) : Pu := match p.a with
  | [] => p
  | x :: L => { p with a := L, c := p.c ++ [(x.1, none)] }
def ghost13 (p : Pu) : Pu := match p.b with
  | [] => p
  | x :: L => { p with b := L, d := p.d ++ [(x.1, none)] }
def roomP (p : Pu) (g : Bool) : Pu :=
  if (p.a.length : Int) + p.b.length < p.room then p
  else if 0 < (p.a.length : Int) ∧ ((p.b.length : Int) = 0 ∨ p.target < p.a.length ∨ (g = true ∧ (p.a.length : Int) = p.target)) then ghost02 p else ghost13 p
def allP (p : Pu) : Int := p.a.length + p.b.length + p.c.length + p.d.length
def meetPreP (p : Pu) : Pu :=
  if p.room ≤ (p.a.length : Int) + p.c.length then (if (p.a.length : Int) < p.room then roomP { p with c := p.c.tail } false else { p with a := p.a.tail })
  else if p.room ≤ allP p then roomP (if 2 * p.room ≤ allP p then { p with d := p.d.tail } else p) false else p
def rmL (l : List (Int × Option Int)) (k : Int) : List (Int × Option Int) := l.filter fun y => y.1 != k
def rmP (p : Pu) (k : Int) : Pu := { p with a := rmL p.a k, b := rmL p.b k, c := rmL p.c k, d := rmL p.d k }
def adjP2 (p : Pu) : Int := min p.room (p.target + max 1 ((p.d.length : Int) / p.c.length))
def adjP3 (p : Pu) : Int := max 0 (p.target - max 1 ((p.c.length : Int) / p.d.length))
def havePreP (p : Pu) (r : Nat) : Pu := if r = 2 then roomP { p with target := adjP2 p } false else if r = 3 then roomP { p with target := adjP3 p } true else p
def hasK (l : List (Int × Option Int)) (k : Int) : Bool := l.any fun y => y.1 == k
def whereP (p : Pu) (k : Int) : Option Nat := if hasK p.a k then some 0 else if hasK p.b k then some 1 else if hasK p.c k then some 2 else if hasK p.d k then some 3 else none
def moveP (p : Pu) (k : Int) (o : Option Int) : Pu := { rmP p k with b := rmL p.b k ++ [(k, o)] }
def newP (p : Pu) (k : Int) (o : Option Int) : Pu := { p with a := p.a ++ [(k, o)] }
def putP (p : Pu) (k : Int) (c : Int) : Pu := match whereP p k with
  | none => newP (meetPreP p) k (some c)
  | some r => moveP (havePreP p r) k (some c)

def byteOf (v : List Value) : Int := match v with
  | .int _ c :: _ => c
  | _ => 0
theorem byteOf_blk (c : Int) : byteOf (blk c) = c := rfl
def absI (x : It) : Int × Option Int := (x.key, x.d.map fun _ => byteOf x.v)
def absS (s : Cs) : Pu := ⟨(s.R 0).map absI, (s.R 1).map absI, (s.R 2).map absI, (s.R 3).map absI, s.room, s.target⟩
theorem abs_forget0 (s : Cs) : absS (forgetF s 0) = { absS s with a := (absS s).a.tail } := by
  simp [absS, forgetF, setR, upd, List.map_tail]
theorem abs_forget2 (s : Cs) : absS (forgetF s 2) = { absS s with c := (absS s).c.tail } := by
  simp [absS, forgetF, setR, upd, List.map_tail]
theorem abs_forget3 (s : Cs) : absS (forgetF s 3) = { absS s with d := (absS s).d.tail } := by
  simp [absS, forgetF, setR, upd, List.map_tail]
theorem abs_ghost02 (s : Cs) : absS (ghostF s 0 2) = ghost02 (absS s) := by
  unfold ghostF ghost02
  cases h : s.R 0 with
  | nil => simp [absS, h]
  | cons x L => simp [absS, setR, upd, h, absI]
theorem abs_ghost13 (s : Cs) : absS (ghostF s 1 3) = ghost13 (absS s) := by
  unfold ghostF ghost13
  cases h : s.R 1 with
  | nil => simp [absS, h]
  | cons x L => simp [absS, setR, upd, h, absI]
theorem abs_room (s : Cs) (g : Bool) : absS (roomF s g) = roomP (absS s) g := by
  unfold roomF roomP
  have e0 : ((absS s).a.length : Int) = (s.R 0).length := by simp [absS]
  have e1 : ((absS s).b.length : Int) = (s.R 1).length := by simp [absS]
  rw [e0, e1, show (absS s).room = s.room from rfl, show (absS s).target = s.target from rfl]
  split
  · rfl
  · split
    · exact abs_ghost02 s
    · exact abs_ghost13 s
theorem abs_meet (s : Cs) : absS (meetPre s) = meetPreP (absS s) := by
  unfold meetPre meetPreP
  have e0 : ((absS s).a.length : Int) = (s.R 0).length := by simp [absS]
  have e2 : ((absS s).c.length : Int) = (s.R 2).length := by simp [absS]
  have e4 : allP (absS s) = all4 s := by simp [allP, all4, absS]
  rw [e0, e2, e4, show (absS s).room = s.room from rfl]
  split
  · split
    · rw [abs_room, abs_forget2]; rfl
    · rw [abs_forget0]; rfl
  · split
    · rw [abs_room]
      split
      · rw [abs_forget3]; rfl
      · rfl
    · rfl
theorem abs_setT (s : Cs) (t : Int) : absS (setT s t) = { absS s with target := t } := rfl
theorem abs_have (s : Cs) (r : Nat) : absS (havePre s r) = havePreP (absS s) r := by
  unfold havePre havePreP
  have e2 : adjP2 (absS s) = adj2 s := by simp [adjP2, adj2, absS]
  have e3 : adjP3 (absS s) = adj3 s := by simp [adjP3, adj3, absS]
  rw [e2, e3]
  split
  · rw [abs_room, abs_setT]
  · split
    · rw [abs_room, abs_setT]
    · rfl
theorem abs_rmL (L : List It) (k : Int) : (L.filter fun y => y.key != k).map absI = rmL (L.map absI) k := by
  unfold rmL
  rw [List.filter_map]
  rfl
theorem abs_move (s : Cs) (x : It) : absS (moveF s x) = moveP (absS s) x.key (absI x).2 := by
  simp only [absS, moveF, setR, moveP, rmP, upd, rmK]
  simp [abs_rmL, absI]
theorem abs_new (s : Cs) (x : It) : absS (putNew s x) = newP (absS s) x.key (absI x).2 := by
  simp [absS, putNew, setR, newP, upd, absI]
theorem abs_drop (s : Cs) (k : Int) : absS (dropF s k) = rmP (absS s) k := by
  simp only [absS, dropF, setR, rmP, rmK]
  simp [abs_rmL]
theorem has_abs (L : List It) (k : Int) : hasK (L.map absI) k = true ↔ ∃ x ∈ L, x.key = k := by
  simp [hasK, absI]
theorem where_none {s : Cs} {k : Int} (h : fk (allI s.R) k = none) : whereP (absS s) k = none := by
  have hn : ∀ r, r < 4 → ∀ x ∈ s.R r, x.key ≠ k := fun r hr x hx e => by
    unfold fk at h
    rw [List.find?_eq_none] at h
    exact h x (mem_allI.2 ⟨r, hr, hx⟩) (by simpa using e)
  have hf : ∀ r, r < 4 → ¬ hasK ((s.R r).map absI) k = true := fun r hr hh => by
    obtain ⟨x, hx, e⟩ := (has_abs _ _).1 hh
    exact hn r hr x hx e
  unfold whereP absS
  rw [if_neg (hf 0 (by decide)), if_neg (hf 1 (by decide)), if_neg (hf 2 (by decide)), if_neg (hf 3 (by decide))]
theorem where_some {s : Cs} (hn : ((allI s.R).map (·.key)).Nodup) {k : Int} {x : It} {r : Nat} (hr : r < 4) (hx : x ∈ s.R r) (hk : x.key = k) : whereP (absS s) k = some r := by
  have hu : ∀ r', r' < 4 → r' ≠ r → ¬ hasK ((s.R r').map absI) k = true := fun r' hr' hne hh => by
    obtain ⟨y, hy, e⟩ := (has_abs _ _).1 hh
    unfold allI at hn
    simp only [List.map_append, List.nodup_append, List.mem_map, List.mem_append] at hn
    have hxy : x.key = y.key := hk.trans e.symm
    match r, hr, r', hr', hne, hx, hy with
    | 0, _, 0, _, hne, _, _ => exact hne rfl
    | 1, _, 1, _, hne, _, _ => exact hne rfl
    | 2, _, 2, _, hne, _, _ => exact hne rfl
    | 3, _, 3, _, hne, _, _ => exact hne rfl
    | 0, _, 1, _, _, hx, hy => exact hn.1.1.2.2 _ ⟨x, hx, rfl⟩ _ ⟨y, hy, rfl⟩ hxy
    | 0, _, 2, _, _, hx, hy => exact hn.1.2.2 _ (.inl ⟨x, hx, rfl⟩) _ ⟨y, hy, rfl⟩ hxy
    | 0, _, 3, _, _, hx, hy => exact hn.2.2 _ (.inl (.inl ⟨x, hx, rfl⟩)) _ ⟨y, hy, rfl⟩ hxy
    | 1, _, 0, _, _, hx, hy => exact hn.1.1.2.2 _ ⟨y, hy, rfl⟩ _ ⟨x, hx, rfl⟩ hxy.symm
    | 1, _, 2, _, _, hx, hy => exact hn.1.2.2 _ (.inr ⟨x, hx, rfl⟩) _ ⟨y, hy, rfl⟩ hxy
    | 1, _, 3, _, _, hx, hy => exact hn.2.2 _ (.inl (.inr ⟨x, hx, rfl⟩)) _ ⟨y, hy, rfl⟩ hxy
    | 2, _, 0, _, _, hx, hy => exact hn.1.2.2 _ (.inl ⟨y, hy, rfl⟩) _ ⟨x, hx, rfl⟩ hxy.symm
    | 2, _, 1, _, _, hx, hy => exact hn.1.2.2 _ (.inr ⟨y, hy, rfl⟩) _ ⟨x, hx, rfl⟩ hxy.symm
    | 2, _, 3, _, _, hx, hy => exact hn.2.2 _ (.inr ⟨x, hx, rfl⟩) _ ⟨y, hy, rfl⟩ hxy
    | 3, _, 0, _, _, hx, hy => exact hn.2.2 _ (.inl (.inl ⟨y, hy, rfl⟩)) _ ⟨x, hx, rfl⟩ hxy.symm
    | 3, _, 1, _, _, hx, hy => exact hn.2.2 _ (.inl (.inr ⟨y, hy, rfl⟩)) _ ⟨x, hx, rfl⟩ hxy.symm
    | 3, _, 2, _, _, hx, hy => exact hn.2.2 _ (.inr ⟨y, hy, rfl⟩) _ ⟨x, hx, rfl⟩ hxy.symm
  have hp : hasK ((s.R r).map absI) k = true := (has_abs _ _).2 ⟨x, hx, hk⟩
  unfold whereP absS
  match r, hr, hp, hu with
  | 0, _, hp, _ => rw [if_pos hp]
  | 1, _, hp, hu => rw [if_neg (hu 0 (by decide) (by decide)), if_pos hp]
  | 2, _, hp, hu => rw [if_neg (hu 0 (by decide) (by decide)), if_neg (hu 1 (by decide) (by decide)), if_pos hp]
  | 3, _, hp, hu => rw [if_neg (hu 0 (by decide) (by decide)), if_neg (hu 1 (by decide) (by decide)), if_neg (hu 2 (by decide) (by decide)), if_pos hp]
theorem abs_put {s s' : Cs} (hn : ((allI s.R).map (·.key)).Nodup) {k c : Int} (h : PutR s k (blk c) s') : absS s' = putP (absS s) k c := by
  unfold putP
  rcases h with ⟨hk, xb, d, rfl⟩ | ⟨x, r, d, hr, hx, hk, rfl⟩
  · rw [where_none hk, abs_new, abs_meet]; rfl
  · rw [where_some hn hr hx hk, abs_move, abs_have, hk]; rfl
/-- All data are blocks of one byte and zeros. -/
def DV (s : Cs) : Prop := ∀ x ∈ allI s.R, x.d.isSome → x.v = blk (byteOf x.v)
theorem DV.of {s s' : Cs} (h : DV s) (hd : DS s s') : DV s' := fun y hy hs => by
  obtain ⟨d, hd'⟩ := Option.isSome_iff_exists.1 hs
  obtain ⟨z, hz, e1, _, e3⟩ := hd y hy d hd'
  rw [← e3]
  exact h z hz (by rw [e1]; rfl)
theorem DS.meet (s : Cs) : DS s (meetPre s) := by
  unfold meetPre
  split
  · split
    · exact (DS.forget s 2 (by decide)).trans (DS.room _ _)
    · exact DS.forget s 0 (by decide)
  · split
    · refine DS.trans ?_ (DS.room _ _)
      split
      · exact DS.forget s 3 (by decide)
      · exact DS.refl s
    · exact DS.refl s
theorem DV.put {s s' : Cs} (h : DV s) {k c : Int} (hp : PutR s k (blk c) s') : DV s' := by
  rcases hp with ⟨_, xb, d, rfl⟩ | ⟨x, r, d, hr, hx, _, rfl⟩
  · intro y hy hs
    rcases mem_upd hy with h2 | h2
    · rcases List.mem_append.1 h2 with h3 | h3
      · exact h.of (DS.meet s) y (mem_allI.2 ⟨0, by decide, h3⟩) hs
      · simp at h3; subst h3; rfl
    · exact h.of (DS.meet s) y h2 hs
  · intro y hy hs
    rcases mem_move hy with rfl | ⟨h2, _⟩
    · rfl
    · exact h.of (DS.pre s r) y h2 hs
end Go.Proofs.Ytefjpljjdjecjaa
