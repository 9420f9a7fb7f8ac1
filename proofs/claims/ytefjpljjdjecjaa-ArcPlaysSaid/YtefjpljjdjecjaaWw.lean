/- ArcRoom: the plain law. -/
import Derived.Test.YtefjpljjdjecjaaWv
namespace Go.Proofs.Ytefjpljjdjecjaa
open Go.RowKit
/-- A cache in which all that was ever put is had. -/
structure RI (n : Nat) (p : Pu) : Prop where
  rm : p.room = n
  pc : p.c = []
  pd : p.d = []
  tg : p.target = 0
  ea : ∀ e ∈ p.a, 0 ≤ e.1 ∧ e.1 < n ∧ e.2 = some e.1
  eb : ∀ e ∈ p.b, 0 ≤ e.1 ∧ e.1 < n ∧ e.2 = some e.1
def hadP (p : Pu) (k : Int) : Bool := decide (k ∈ ksP p.a ∨ k ∈ ksP p.b)
/-- Numbers below n, none twice, are at most n; and one that is not there makes them fewer. -/
theorem nodup_lt' : ∀ (n : Nat) (l : List Int), l.Nodup → (∀ x ∈ l, 0 ≤ x ∧ x < n) → l.length ≤ n
  | 0, l, _, h => by
    cases l with
    | nil => simp
    | cons x l => have := h x (List.mem_cons_self ..); omega
  | n + 1, l, hn, h => by
    have h1 := nodup_lt' n (l.erase (n : Int)) (hn.erase _) fun x hx => by
      obtain ⟨hne, hm⟩ := hn.mem_erase_iff.1 hx
      have := h x hm
      omega
    rw [List.length_erase] at h1
    split at h1 <;> omega
theorem nodup_lt {l : List Int} {n : Nat} (hn : l.Nodup) (h : ∀ x ∈ l, 0 ≤ x ∧ x < n) : l.length ≤ n := nodup_lt' n l hn h
theorem RI.keys {n : Nat} {p : Pu} (h : RI n p) (hn : NK p) : (ksP p.a ++ ksP p.b).Nodup ∧ ∀ x ∈ ksP p.a ++ ksP p.b, 0 ≤ x ∧ x < n := by
  constructor
  · unfold NK at hn
    exact (List.nodup_append.1 (List.nodup_append.1 hn).1).1
  · intro x hx
    rcases List.mem_append.1 hx with hx | hx
    · obtain ⟨e, he, rfl⟩ := List.mem_map.1 hx
      exact ⟨(h.ea e he).1, (h.ea e he).2.1⟩
    · obtain ⟨e, he, rfl⟩ := List.mem_map.1 hx
      exact ⟨(h.eb e he).1, (h.eb e he).2.1⟩
theorem RI.fewer {n : Nat} {p : Pu} (h : RI n p) (hn : NK p) {k : Int} (hk : 0 ≤ k ∧ k < n) (hno : k ∉ ksP p.a ∧ k ∉ ksP p.b) : p.a.length + p.b.length < n := by
  obtain ⟨h1, h2⟩ := h.keys hn
  have := nodup_lt (l := k :: (ksP p.a ++ ksP p.b)) (n := n) (List.nodup_cons.2 ⟨by simp [hno], h1⟩) (fun x hx => by
    rcases List.mem_cons.1 hx with rfl | hx
    · exact hk
    · exact h2 x hx)
  simp [ksP] at this
  omega
theorem has_iff (l : List (Int × Option Int)) (k : Int) : hasK l k = true ↔ k ∈ ksP l := by
  simp [hasK, ksP]
theorem RI.move {n : Nat} {p : Pu} (h : RI n p) {k : Int} (hk : 0 ≤ k ∧ k < n) : RI n (moveP p k (some k)) := by
  refine ⟨h.rm, by simp [moveP, rmP, h.pc, rmL], by simp [moveP, rmP, h.pd, rmL], h.tg, fun e he => h.ea e (mem_rmL he), fun e he => ?_⟩
  rcases List.mem_append.1 he with he | he
  · exact h.eb e (mem_rmL he)
  · simp at he; subst he; exact ⟨hk.1, hk.2, rfl⟩
theorem RI.put {n : Nat} {p : Pu} (h : RI n p) (hn : NK p) {k : Int} (hk : 0 ≤ k ∧ k < n) : RI n (putP p k k) ∧ ∀ j, hadP (putP p k k) j = (hadP p j || decide (j = k)) := by
  have hmv : ∀ r, r < 2 → hadP p k = true → (RI n (moveP (havePreP p r) k (some k)) ∧ ∀ j, hadP (moveP (havePreP p r) k (some k)) j = (hadP p j || decide (j = k))) := fun r hr hh => by
    have hpre : havePreP p r = p := by unfold havePreP; rw [if_neg (by omega), if_neg (by omega)]
    rw [hpre]
    refine ⟨h.move hk, fun j => ?_⟩
    have e1 : ksP (moveP p k (some k)).a = dropK (ksP p.a) k := ks_rm _ _
    have e2 : ksP (moveP p k (some k)).b = dropK (ksP p.b) k ++ [k] := by
      rw [← ks_rm]; simp [moveP, ksP]
    rw [Bool.eq_iff_iff]
    simp only [hadP, Bool.or_eq_true, decide_eq_true_eq, e1, e2]
    by_cases hj : j = k
    · subst hj; simp
    · simp [dropK, hj]
  cases hw : whereP p k with
  | none =>
    have hna : k ∉ ksP p.a ∧ k ∉ ksP p.b := by
      unfold whereP at hw
      split at hw
      · cases hw
      · split at hw
        · cases hw
        · rename_i h1 h2
          exact ⟨fun hm => h1 ((has_iff _ _).2 hm), fun hm => h2 ((has_iff _ _).2 hm)⟩
    have hf := h.fewer hn hk hna
    have hm : meetPreP p = p := by
      unfold meetPreP allP
      rw [h.pc, h.pd, h.rm]
      simp only [List.length_nil]
      rw [if_neg (by omega), if_neg (by omega)]
    rw [show putP p k k = newP (meetPreP p) k (some k) from by unfold putP; rw [hw], hm]
    refine ⟨⟨h.rm, h.pc, h.pd, h.tg, fun e he => ?_, h.eb⟩, fun j => ?_⟩
    · rcases List.mem_append.1 he with he | he
      · exact h.ea e he
      · simp at he; subst he; exact ⟨hk.1, hk.2, rfl⟩
    · unfold hadP newP
      rw [show ksP (p.a ++ [(k, some k)]) = ksP p.a ++ [k] from by simp [ksP]]
      by_cases hj : j = k
      · subst hj; simp
      · simp [hj]
  | some r =>
    rw [show putP p k k = moveP (havePreP p r) k (some k) from by unfold putP; rw [hw]]
    rcases where_has hw with ⟨rfl, hh⟩ | ⟨rfl, hh⟩ | ⟨rfl, hh⟩ | ⟨rfl, hh⟩
    · exact hmv 0 (by decide) (by unfold hadP; simp [(has_iff _ _).1 hh])
    · exact hmv 1 (by decide) (by unfold hadP; simp [(has_iff _ _).1 hh])
    · rw [h.pc] at hh; cases hh
    · rw [h.pd] at hh; cases hh
theorem RI.look {n : Nat} {p : Pu} (h : RI n p) (hw : WF p) (k : Int) : lookP p k = if hadP p k then some k else none := by
  cases hl : lookP p k with
  | none =>
    obtain ⟨h1, h2⟩ := look_none hw hl
    rw [if_neg (by simp [hadP, h1, h2])]
  | some c =>
    have hh := look_some hl
    rw [if_pos (by simp [hadP, hh])]
    unfold lookP at hl
    obtain ⟨y, hf, hy⟩ := Option.bind_eq_some_iff.1 hl
    have hk : y.1 = k := by simpa using List.find?_some hf
    have hy2 : y.2 = some y.1 := by
      rcases List.mem_append.1 (List.mem_of_find?_eq_some hf) with h' | h'
      · exact (h.ea y h').2.2
      · exact (h.eb y h').2.2
    rw [hy2, hk] at hy
    exact hy.symm
theorem RI.get {n : Nat} {p : Pu} (h : RI n p) (hw : WF p) {k : Int} (hk : 0 ≤ k ∧ k < n) : RI n (getP p k) ∧ ∀ j, hadP (getP p k) j = hadP p j := by
  unfold getP
  rw [h.look hw]
  by_cases hh : hadP p k = true
  · rw [if_pos hh]
    refine ⟨h.move hk, fun j => ?_⟩
    have e1 : ksP (moveP p k (some k)).a = dropK (ksP p.a) k := ks_rm _ _
    have e2 : ksP (moveP p k (some k)).b = dropK (ksP p.b) k ++ [k] := by
      rw [← ks_rm]; simp [moveP, ksP]
    rw [Bool.eq_iff_iff]
    simp only [hadP, decide_eq_true_eq, e1, e2]
    by_cases hj : j = k
    · subst hj
      have : j ∈ ksP p.a ∨ j ∈ ksP p.b := by simpa [hadP] using hh
      simp [this]
    · simp [dropK, hj]
  · rw [if_neg hh]
    exact ⟨h, fun _ => rfl⟩
theorem RI.new (n : Nat) : RI n (newPu n) := ⟨rfl, rfl, rfl, rfl, fun e he => by simp [newPu] at he, fun e he => by simp [newPu] at he⟩
/-- How many of the first n are had. -/
def manyP (p : Pu) (n : Nat) : Nat := (List.range n).countP fun (k : Nat) => hadP p (k : Int)
theorem count_mem : ∀ (n : Nat) (l : List Int), l.Nodup → (∀ x ∈ l, 0 ≤ x ∧ x < n) → (List.range n).countP (fun (k : Nat) => decide ((k : Int) ∈ l)) = l.length
  | 0, l, _, h => by
    cases l with
    | nil => simp
    | cons x l => have := h x (List.mem_cons_self ..); omega
  | n + 1, l, hn, h => by
    rw [List.range_succ, List.countP_append]
    have h1 := count_mem n (l.erase (n : Int)) (hn.erase _) fun x hx => by
      obtain ⟨hne, hm⟩ := hn.mem_erase_iff.1 hx
      have := h x hm
      omega
    have h2 : (List.range n).countP (fun (k : Nat) => decide ((k : Int) ∈ l)) = (List.range n).countP (fun (k : Nat) => decide ((k : Int) ∈ l.erase (n : Int))) := by
      refine List.countP_congr fun k hk => ?_
      have := List.mem_range.1 hk
      simp only [decide_eq_true_eq, hn.mem_erase_iff]
      constructor
      · intro hm; exact ⟨by omega, hm⟩
      · exact fun hm => hm.2
    rw [h2, h1, List.length_erase]
    by_cases hm : (n : Int) ∈ l
    · have := List.length_pos_of_mem hm
      simp [hm]; omega
    · simp [hm]
theorem RI.many {n : Nat} {p : Pu} (h : RI n p) (hn : NK p) : manyP p n = p.a.length + p.b.length := by
  obtain ⟨h1, h2⟩ := h.keys hn
  have := count_mem n _ h1 h2
  unfold manyP hadP
  simp only [← List.mem_append]
  rw [this]
  simp [ksP]
end Go.Proofs.Ytefjpljjdjecjaa
