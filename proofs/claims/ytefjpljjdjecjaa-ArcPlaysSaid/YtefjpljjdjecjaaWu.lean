/- ArcAsked. -/
import Derived.Test.YtefjpljjdjecjaaWt
namespace Go.Proofs.Ytefjpljjdjecjaa
open Go.RowKit
/-- No key stands twice. -/
def NK (p : Pu) : Prop := (ksP p.a ++ ksP p.b ++ ksP p.c ++ ksP p.d).Nodup
theorem PA.nk {A : Nat → Prop} {w : World} {cb : Nat} {p : Pu} (h : PA A w cb p) : NK p := by
  obtain ⟨s, h1, rfl, _⟩ := h
  have := h1.nk
  unfold NK absS
  simp only [ks_abs]
  unfold allI at this
  simpa [keysL] using this
def dropK (l : List Int) (k : Int) : List Int := l.filter fun x => !(x == k)
theorem ks_rm (l : List (Int × Option Int)) (k : Int) : ksP (rmL l k) = dropK (ksP l) k := by
  unfold ksP rmL dropK
  rw [List.filter_map]
  rfl
theorem dropK_not {l : List Int} {k : Int} (h : k ∉ l) : dropK l k = l := by
  unfold dropK
  rw [List.filter_eq_self]
  intro x hx
  simp only [Bool.not_eq_true', beq_eq_false_iff_ne, ne_eq]
  rintro rfl
  exact h hx
theorem look_none {p : Pu} (hw : WF p) {k : Int} (h : lookP p k = none) : k ∉ ksP p.a ∧ k ∉ ksP p.b := by
  unfold lookP at h
  cases hf : (p.a ++ p.b).find? fun y => y.1 == k with
  | none =>
    rw [List.find?_eq_none] at hf
    constructor
    · intro hm
      obtain ⟨y, hy, rfl⟩ := List.mem_map.1 hm
      exact hf y (List.mem_append_left _ hy) (by simp)
    · intro hm
      obtain ⟨y, hy, rfl⟩ := List.mem_map.1 hm
      exact hf y (List.mem_append_right _ hy) (by simp)
  | some y =>
    rw [hf] at h
    have hy := List.mem_of_find?_eq_some hf
    have hs : y.2.isSome := by
      rcases List.mem_append.1 hy with h' | h'
      · exact hw.fa y h'
      · exact hw.fb y h'
    simp only [Option.bind_some] at h
    rw [h] at hs
    cases hs
theorem look_some {p : Pu} {k c : Int} (h : lookP p k = some c) : k ∈ ksP p.a ∨ k ∈ ksP p.b := by
  unfold lookP at h
  obtain ⟨y, hf, _⟩ := Option.bind_eq_some_iff.1 h
  have hk : y.1 = k := by simpa using List.find?_some hf
  rcases List.mem_append.1 (List.mem_of_find?_eq_some hf) with h' | h'
  · exact .inl (hk ▸ List.mem_map_of_mem h')
  · exact .inr (hk ▸ List.mem_map_of_mem h')
theorem nk_apart {p : Pu} (h : NK p) {k : Int} (hk : k ∈ ksP p.a ∨ k ∈ ksP p.b) : k ∉ ksP p.c ∧ k ∉ ksP p.d := by
  unfold NK at h
  simp only [List.nodup_append, List.mem_append] at h
  constructor
  · intro hc; exact h.1.2.2 k (hk) k hc rfl
  · intro hd; exact h.2.2 k (.inl hk) k hd rfl
/-- What Get makes of a cache. -/
def getP (p : Pu) (k : Int) : Pu := match lookP p k with
  | some c => moveP p k (some c)
  | none => p
theorem getP_rows {p : Pu} (hw : WF p) (hn : NK p) (k : Int) :
    ksP (getP p k).c = ksP p.c ∧ ksP (getP p k).d = ksP p.d ∧ (getP p k).target = p.target ∧ ksP (getP p k).a = dropK (ksP p.a) k ∧ ksP (getP p k).b = dropK (ksP p.b) k ++ (if k ∈ ksP p.a ∨ k ∈ ksP p.b then [k] else []) ∧ ((lookP p k).isSome = decide (k ∈ ksP p.a ∨ k ∈ ksP p.b)) := by
  unfold getP
  cases hl : lookP p k with
  | none =>
    obtain ⟨h1, h2⟩ := look_none hw hl
    simp only []
    rw [dropK_not h1, dropK_not h2, if_neg (by simp [h1, h2])]
    simp [h1, h2]
  | some c =>
    have hk := look_some hl
    obtain ⟨h3, h4⟩ := nk_apart hn hk
    simp only [moveP, rmP]
    rw [ks_rm, ks_rm, ks_rm, dropK_not h3, dropK_not h4, if_pos hk]
    refine ⟨by first | rfl | trivial, by first | rfl | trivial, by first | rfl | trivial, by first | rfl | trivial, ?_, by simp [hk]⟩
    rw [show ksP (rmL p.b k ++ [(k, some c)]) = ksP (rmL p.b k) ++ [k] from by simp [ksP], ks_rm]
/-- Get in one. -/
def getV (p : Pu) (k : Int) : Value := match lookP p k with
  | some c => .tuple #[.agg (blk c).toArray, .int .i64 0]
  | none => .tuple #[.agg (blk 0).toArray, .int .i64 5]
theorem get_pb {B : Nat} (w : World) (cb : Nat) (p : Pu) (h : PB B w cb p) (hB : B ≤ w.heap.size) (key : Int) :
    Calls Try.prog 12 #[.pointer (some ⟨cb, 0, none⟩), .int .i64 key] w fun e w' => e = .returned (getV p key) ∧ PB B w' cb (getP p key) ∧ Below B w w' := by
  unfold getV getP
  cases hl : lookP p key with
  | none =>
    refine (get_pa_none w cb p h key hl).mono ?_
    rintro e w' ⟨rfl, h1, h2⟩
    exact ⟨rfl, h1, h2.mono hB⟩
  | some c =>
    refine (get_pa_some w cb p h (fun k hk => Nat.lt_of_lt_of_le hk hB) key c hl).mono ?_
    rintro e w' ⟨rfl, h1, h2⟩
    exact ⟨rfl, h1, Kp.below h2 hB⟩
theorem put_pb {B : Nat} (w : World) (cb : Nat) (p : Pu) (h : PB B w cb p) (hB : B ≤ w.heap.size) (key c : Int) :
    Calls Try.prog 11 #[.pointer (some ⟨cb, 0, none⟩), .int .i64 key, .agg (blk c).toArray] w fun e w' => e = .returned (.int .i64 0) ∧ PB B w' cb (putP p key c) ∧ Below B w w' := by
  refine (put_pa w cb p h (fun k hk => Nat.lt_of_lt_of_le hk hB) key c).mono ?_
  rintro e w' ⟨rfl, h1, h2⟩
  exact ⟨rfl, h1, Kp.below h2 hB⟩
end Go.Proofs.Ytefjpljjdjecjaa
