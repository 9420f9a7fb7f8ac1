/- DeadOnce: the plain law, step by step; what is kept, in memory. -/
import Derived.Test.YtaokogeblpjabaaWh
namespace Go.Proofs.Ytaokogeblpjabaa
open Go.RowKit
structure StepR (f f' : Int → Nat) (G : List Int) (kd : Nat) (y : Int) : Prop where
  gone : ∀ k ∈ G, f k ≠ 0 ∧ f' k = 0
  left : ∀ k, f k ≠ 0 → f' k ≠ 0 ∨ k ∈ G
  came : ∀ k, f' k ≠ 0 → f k ≠ 0 ∨ (kd = 0 ∧ k = y)
theorem StepR.same (f : Int → Nat) (kd : Nat) (y : Int) : StepR f f [] kd y := ⟨by simp, fun k h => .inl h, fun k h => .inl h⟩
/-- What each tree kept, it needs. -/
def KI (f : Int → Nat) (K : Nat → List Int) : Prop := ∀ n, 1 ≤ n → n < 7 → ∀ k ∈ K n, (f k).testBit n = true
def updK (K : Nat → List Int) (n : Nat) (l : List Int) : Nat → List Int := fun j => if j = n then l else K j
theorem KI.not {f : Int → Nat} {K : Nat → List Int} (h : KI f K) {n : Nat} (h1 : 1 ≤ n) (h7 : n < 7) {k : Int} (hk : f k = 0) : k ∉ K n := fun hm => by
  have := h n h1 h7 k hm
  rw [hk] at this
  simp at this
theorem need_step {f : Int → Nat} (hv : Vm f) (a y : Int) : StepR f (needF f a y) [] 0 y ∧ ∀ K, KI f K → KI (needF f a y) K := by
  unfold needF
  split
  · rename_i hok
    split
    · exact ⟨StepR.same f 0 y, fun _ h => h⟩
    · have ha : a.toNat < 7 := by have := hok.1; unfold okT at this; omega
      refine ⟨⟨by simp, fun k h => .inl ?_, fun k h => ?_⟩, fun K hK n h1 h7 k hk => ?_⟩
      · unfold updI
        split
        · exact on_ne (hv.lt y) ha
        · exact h
      · unfold updI at h
        split at h
        · rename_i e; exact .inr ⟨rfl, e⟩
        · exact .inl h
      · have := hK n h1 h7 k hk
        unfold updI
        split
        · rename_i e
          subst e
          rw [on_has (hv.lt k) ha h7, this]; simp
        · exact this
  · exact ⟨StepR.same f 0 y, fun _ h => h⟩
theorem giveR_eq {f : Int → Nat} {a y : Int} (h : giveR f a y = true) : giveE f a y = 0 ∧ f y ≠ 0 ∧ giveF f a y = updI f y 0 := by
  unfold giveR at h
  split at h
  · rename_i hok
    split at h
    · rename_i hb
      have h0 : offM (f y) a.toNat = 0 := by simpa using h
      refine ⟨by unfold giveE; rw [if_pos hok, if_pos hb], fun e => by rw [e] at hb; simp at hb, by unfold giveF; rw [if_pos hok, if_pos hb, h0]⟩
    · cases h
  · cases h
theorem give_no {f : Int → Nat} {a y : Int} (h : giveE f a y ≠ 0) : giveF f a y = f ∧ giveR f a y = false := by
  unfold giveE at h
  unfold giveF giveR
  split at h
  · rename_i hok
    rw [if_pos hok, if_pos hok]
    split at h
    · exact absurd rfl h
    · rename_i hb
      rw [if_neg hb, if_neg hb]
      exact ⟨rfl, rfl⟩
  · rename_i hok
    rw [if_neg hok, if_neg hok]
    exact ⟨rfl, rfl⟩
theorem give_yes {f : Int → Nat} {a y : Int} (h : giveE f a y = 0) : okT a ∧ okB y ∧ (f y).testBit a.toNat = true ∧ giveF f a y = updI f y (offM (f y) a.toNat) ∧ giveR f a y = decide (offM (f y) a.toNat = 0) := by
  unfold giveE at h
  split at h
  · rename_i hok
    split at h
    · rename_i hb
      exact ⟨hok.1, hok.2, hb, by unfold giveF; rw [if_pos hok, if_pos hb], by unfold giveR; rw [if_pos hok, if_pos hb]⟩
    · cases h
  · cases h
theorem give_step {f : Int → Nat} (hv : Vm f) (a y : Int) : StepR f (giveF f a y) (if giveR f a y then [y] else []) 1 y ∧
    (giveE f a y = 0 → ∀ K, KI f K → KI (giveF f a y) (updK K a.toNat [])) ∧ (giveE f a y = 0 → a = 0 → ∀ K, KI f K → KI (giveF f a y) K) := by
  by_cases h0 : giveE f a y = 0
  · obtain ⟨o1, o2, o3, o4, o5⟩ := give_yes h0
    have ha : a.toNat < 7 := by unfold okT at o1; omega
    rw [o4, o5]
    refine ⟨?_, fun _ K hK n h1 h7 k hk => ?_, fun _ e0 K hK n h1 h7 k hk => ?_⟩
    · refine ⟨fun k hk => ?_, fun k h => ?_, fun k h => .inl ?_⟩
      · by_cases hz : offM (f y) a.toNat = 0
        · rw [decide_eq_true hz] at hk
          simp at hk
          subst hk
          exact ⟨fun e => by rw [e] at o3; simp at o3, by simp [updI, hz]⟩
        · rw [decide_eq_false hz] at hk
          simp at hk
      · by_cases e : k = y
        · subst e
          by_cases hz : offM (f k) a.toNat = 0
          · right; rw [decide_eq_true hz]; simp
          · left; simpa [updI] using hz
        · left; simpa [updI, e] using h
      · by_cases e : k = y
        · subst e
          intro e0; rw [e0] at o3; simp at o3
        · simpa [updI, e] using h
    · unfold updK at hk
      split at hk
      · simp at hk
      · rename_i hna
        have := hK n h1 h7 k hk
        unfold updI
        split
        · rename_i e
          subst e
          rw [off_has (hv.lt k) ha h7, this]; simp [hna]
        · exact this
    · have := hK n h1 h7 k hk
      have hna : ¬ n = a.toNat := by subst e0; simp; omega
      unfold updI
      split
      · rename_i e
        subst e
        rw [off_has (hv.lt k) ha h7, this]; simp [hna]
      · exact this
  · obtain ⟨o1, o2⟩ := give_no h0
    rw [o1, o2]
    exact ⟨StepR.same f 1 y, fun h => absurd h h0, fun h => absurd h h0⟩
theorem like_no {f : Int → Nat} {a c : Int} (h : likeE f a c ≠ 0) : likeF f a c = f := by
  unfold likeE at h
  unfold likeF
  split at h
  · rename_i hok
    split at h
    · exact absurd rfl h
    · rename_i hn
      rw [if_neg (fun x => hn x.2)]
  · rename_i hok
    rw [if_neg (fun x => hok x.1)]
theorem like_yes {f : Int → Nat} {a c : Int} (h : likeE f a c = 0) : okT a ∧ okT c ∧ likeF f a c = likeF1 f a.toNat c.toNat := by
  unfold likeE at h
  split at h
  · rename_i hok
    split at h
    · rename_i hn
      exact ⟨hok.1, hok.2.1, by unfold likeF; rw [if_pos ⟨hok, hn⟩]⟩
    · cases h
  · cases h
theorem like1_vm {f : Int → Nat} (hv : Vm f) {a c : Nat} (hc : c < 7) : Vm (likeF1 f a c) := by
  refine ⟨fun k => ?_, fun k h => ?_⟩
  · unfold likeF1
    split
    · exact on_lt (hv.lt k) hc
    · exact hv.lt k
  · unfold likeF1 at h
    split at h
    · rename_i hb
      exact hv.dom k (fun e => by rw [e] at hb; simp at hb)
    · exact hv.dom k h
theorem like_step {f : Int → Nat} (hv : Vm f) (a c : Int) (kd : Nat) (y : Int) : StepR f (likeF f a c) [] kd y ∧ (likeE f a c = 0 → okT c ∧ ∀ K, KI f K → KI (likeF f a c) (updK K c.toNat (ofL (likeF f a c) c))) := by
  by_cases h0 : likeE f a c = 0
  · obtain ⟨o1, o2, o3⟩ := like_yes h0
    have ha : a.toNat < 7 := by unfold okT at o1; omega
    have hc : c.toNat < 7 := by unfold okT at o2; omega
    rw [o3]
    refine ⟨⟨by simp, fun k h => .inl ?_, fun k h => .inl ?_⟩, fun _ => ⟨o2, fun K hK n h1 h7 k hk => ?_⟩⟩
    · unfold likeF1
      split
      · exact on_ne (hv.lt k) hc
      · exact h
    · unfold likeF1 at h
      split at h
      · rename_i hb
        intro e; rw [e] at hb; simp at hb
      · exact h
    · unfold updK at hk
      split at hk
      · rename_i e
        subst e
        obtain ⟨C, rfl⟩ : ∃ C : Nat, c = C := ⟨c.toNat, by unfold okT at o2; omega⟩
        rw [Int.toNat_natCast] at *
        exact (ofL_mem (like1_vm hv hc) hc).1 hk
      · have := hK n h1 h7 k hk
        unfold likeF1
        split
        · rw [on_has (hv.lt k) hc h7, this]; simp
        · exact this
  · rw [like_no h0]
    exact ⟨StepR.same f kd y, fun h => absurd h h0⟩
theorem drop_step {f : Int → Nat} (hv : Vm f) (a : Int) (kd : Nat) (y : Int) : StepR f (dropF f a) (dropL f a) kd y ∧ (okT a → ∀ K, KI f K → KI (dropF f a) (updK K a.toNat [])) ∧ (¬ okT a → dropF f a = f) := by
  by_cases o1 : okT a
  · have ha : a.toNat < 7 := by unfold okT at o1; omega
    have e1 : dropF f a = dropF1 f a.toNat := by unfold dropF; rw [if_pos o1]
    have e2 : dropL f a = theL fun k => pGone a.toNat (f k) := by unfold dropL; rw [if_pos o1]
    rw [e1, e2]
    refine ⟨⟨fun k hk => ?_, fun k h => ?_, fun k h => .inl ?_⟩, fun _ K hK n h1 h7 k hk => ?_, fun h => absurd o1 h⟩
    · rw [mem_theL] at hk
      have := hk.2.2
      unfold pGone at this
      rw [Bool.and_eq_true, decide_eq_true_eq] at this
      exact ⟨fun e => by rw [e] at this; simp at this, this.2⟩
    · by_cases hz : dropF1 f a.toNat k = 0
      · right
        have hd := hv.dom k h
        rw [mem_theL]
        refine ⟨by omega, by omega, ?_⟩
        unfold pGone
        rw [Bool.and_eq_true, decide_eq_true_eq]
        refine ⟨?_, hz⟩
        unfold dropF1 offM at hz
        split at hz
        · assumption
        · exact absurd hz h
      · exact .inl hz
    · intro e
      unfold dropF1 offM at h
      rw [e] at h
      simp at h
    · unfold updK at hk
      split at hk
      · simp at hk
      · rename_i hna
        have := hK n h1 h7 k hk
        unfold dropF1
        rw [off_has (hv.lt k) ha h7, this]; simp [hna]
  · have e1 : dropF f a = f := by unfold dropF; rw [if_neg o1]
    have e2 : dropL f a = [] := by unfold dropL; rw [if_neg o1]
    rw [e1, e2]
    exact ⟨StepR.same f kd y, fun h => absurd h o1, fun _ => rfl⟩
theorem mem_allL {f : Int → Nat} (hv : Vm f) {k : Int} : k ∈ allL f ↔ f k ≠ 0 := by
  unfold allL
  rw [mem_theL]
  unfold pAll
  constructor
  · intro h; simpa using h.2.2
  · intro h
    have := hv.dom k h
    exact ⟨by omega, by omega, by simpa using h⟩
theorem whoK_nil {m : Nat} (hm : m < 128) : whoK 7 m = [] ↔ m = 0 := by
  constructor
  · intro h
    by_cases h0 : m = 0
    · exact h0
    · obtain ⟨c, hc, hb⟩ := (ne_zero hm).1 h0
      have : (c : Int) ∈ whoK 7 m := by
        unfold whoK
        rw [List.mem_map]
        exact ⟨c, by rw [List.mem_filter, List.mem_range]; exact ⟨hc, hb⟩, rfl⟩
      rw [h] at this
      cases this
  · intro h
    rw [h]
    decide
end Go.Proofs.Ytaokogeblpjabaa
