/- The document's space in memory; its small functions. -/
import Derived.Test.YtbkbfkaklhojgaaWn
namespace Go.Proofs.Ytbkbfkaklhojgaa
open Go.RowKit Go.Shelf
/-- The document's number of a state. -/
def eN (s : Nat) : Int := if s = 2 then 3 else if s = 3 then 2 else s
def refL (N : Nat) (f : Nat → Nat) : List Value := (List.range N).map fun k => .int .i64 (eN (f k))
theorem refL_len (N : Nat) (f : Nat → Nat) : (refL N f).length = N := by simp [refL]
theorem refL_get (N : Nat) (f : Nat → Nat) (k : Nat) (h : k < N) : (refL N f)[k]? = some (.int .i64 (eN (f k))) := by simp [refL, h]
theorem refL_set (N : Nat) (f : Nat → Nat) (k t : Nat) : (refL N f).set k (.int .i64 (eN t)) = refL N (upd f k t) := by
  apply List.ext_getElem
  · simp [refL]
  · intro i h1 h2
    simp only [refL, List.getElem_set, List.getElem_map, List.getElem_range, upd]
    by_cases e : k = i
    · subst e; simp
    · have e' : ¬ i = k := fun h => e h.symm
      simp [e, e']
theorem refL_congr {N : Nat} {f f' : Nat → Nat} (h : ∀ k, k < N → f k = f' k) : refL N f = refL N f' := by
  unfold refL
  apply List.map_congr_left
  intro k hk
  rw [h k (List.mem_range.1 hk)]
/-- The document's space in memory. -/
def XI (W : World) (q g N : Nat) (last : Int) (f : Nat → Nat) : Prop := ∃ cap pad, RowAt W q 47 [.slice (some ⟨g, 0, none⟩) N cap, .int .i64 last] ∧ RowAt W g 3 (refL N f ++ pad) ∧ N ≤ cap ∧ cap ≤ maxLen
section
variable {W W' : World} {q g N : Nat} {last : Int} {f f' : Nat → Nat}
theorem XI.ltq (h : XI W q g N last f) : q < W.heap.size := by obtain ⟨_, _, h1, _⟩ := h; exact h1.lt
theorem XI.ltg (h : XI W q g N last f) : g < W.heap.size := by obtain ⟨_, _, _, h1, _⟩ := h; exact h1.lt
theorem XI.ne (h : XI W q g N last f) : q ≠ g := by
  obtain ⟨_, _, h1, h2, _⟩ := h
  rintro rfl
  unfold RowAt at h1 h2
  rw [h1] at h2
  simp at h2
theorem XI.next (h : XI W q g N last f) (hb : Below W.heap.size W W') : XI W' q g N last f := by
  obtain ⟨c, p, h1, h2, h3⟩ := h
  exact ⟨c, p, h1.next hb, h2.next hb, h3⟩
theorem XI.fr {M : Nat → Prop} (h : XI W q g N last f) (hf : Fr M W W') (hq : ¬ M q) (hg : ¬ M g) : XI W' q g N last f := by
  obtain ⟨c, p, h1, h2, h3⟩ := h
  exact ⟨c, p, h1.fr hf hq, h2.fr hf hg, h3⟩
theorem XI.c0 (h : XI W q g N last f) : ∃ cap, W.cell? ⟨q, 0, none⟩ = some (.slice (some ⟨g, 0, none⟩) N cap) ∧ N ≤ cap ∧ cap ≤ maxLen := by
  obtain ⟨c, p, h1, h2, h3⟩ := h
  exact ⟨c, h1.cell 0, h3⟩
theorem XI.c1 (h : XI W q g N last f) : W.cell? ⟨q, 1, none⟩ = some (.int .i64 last) := by
  obtain ⟨c, p, h1, h2, h3⟩ := h
  exact h1.cell 1
theorem XI.at (h : XI W q g N last f) (k : Nat) (hk : k < N) : W.cell? ⟨g, k, none⟩ = some (.int .i64 (eN (f k))) := by
  obtain ⟨c, p, h1, h2, h3⟩ := h
  rw [h2.cell k, List.getElem?_append_left (by rw [refL_len]; exact hk)]
  exact refL_get N f k hk
theorem XI.freeg (h : XI W q g N last f) (k : Nat) : W.frozen? ⟨g, k, none⟩ = false := by
  obtain ⟨c, p, h1, h2, h3⟩ := h
  exact h2.free k
theorem XI.freeq (h : XI W q g N last f) (k : Nat) : W.frozen? ⟨q, k, none⟩ = false := by
  obtain ⟨c, p, h1, h2, h3⟩ := h
  exact h1.free k
theorem XI.set (h : XI W q g N last f) (k t : Nat) (hk : k < N) : XI (W.setCell ⟨g, k, none⟩ (.int .i64 (eN t))) q g N last (upd f k t) := by
  have hne := h.ne
  obtain ⟨c, p, h1, h2, h3⟩ := h
  refine ⟨c, p, h1.other k _ hne, ?_, h3⟩
  have := h2.set k (.int .i64 (eN t))
  rwa [List.set_append_left k _ (by rw [refL_len]; exact hk), refL_set] at this
theorem XI.setLast (h : XI W q g N last f) (v : Int) : XI (W.setCell ⟨q, 1, none⟩ (.int .i64 v)) q g N v f := by
  have hne := h.ne
  obtain ⟨c, p, h1, h2, h3⟩ := h
  exact ⟨c, p, h1.set 1 (.int .i64 v), h2.other 1 _ (fun e => hne e.symm), h3⟩
theorem XI.congr (h : XI W q g N last f) (hf : ∀ k, k < N → f k = f' k) : XI W q g N last f' := by
  obtain ⟨c, p, h1, h2, h3⟩ := h
  exact ⟨c, p, h1, refL_congr hf ▸ h2, h3⟩
end
theorem eN_0 {s : Nat} : eN s = 0 ↔ s = 0 := by
  unfold eN
  repeat (split; try omega)
  omega
theorem eN_1 {s : Nat} : eN s = 1 ↔ s = 1 := by
  unfold eN
  repeat (split; try omega)
  omega
theorem eN_2 {s : Nat} (_h : s < 4) : eN s = 2 ↔ s = 3 := by
  unfold eN
  repeat (split; try omega)
  omega
theorem eN_3 {s : Nat} (_h : s < 4) : eN s = 3 ↔ s = 2 := by
  unfold eN
  repeat (split; try omega)
  omega
abbrev QG (q g : Nat) : Nat → Prop := fun k => k = q ∨ k = g
theorem qg_set (W : World) (q g k : Nat) (v : Value) : Fr (QG q g) W (W.setCell ⟨g, k, none⟩ v) := (frSet W g k v).mono (fun _ _ e => .inr e)
theorem qg_setq (W : World) (q g k : Nat) (v : Value) : Fr (QG q g) W (W.setCell ⟨q, k, none⟩ v) := (frSet W q k v).mono (fun _ _ e => .inl e)
theorem block_any (w : World) (q g N : Nat) (last : Int) (f : Nat → Nat) (h : XI w q g N last f) (n : Int) :
    Calls Try.prog 33 #[.pointer (some ⟨q, 0, none⟩), .int .i64 n] w fun e w' => e = .returned (.bool (decide (2 ≤ n ∧ n < (N : Int)))) ∧ w' = w := by
  obtain ⟨cap, c0, hc1, hc2⟩ := h.c0
  clear h
  by_cases h1 : 2 ≤ n
  · by_cases h2 : n < (N : Int)
    · rw [decide_eq_true ⟨h1, h2⟩]
      have g1 : decide ((2 : Int) ≤ n) = true := by simpa using h1
      have g2 : decide (n < (N : Int)) = true := by simpa using h2
      go_enter Try.func33, Try.ntmps33
      go_wp2
      all_goals refine bodyPost_ret (by simp [results, Try.results33, go_sem]; rfl) rfl ?_
      all_goals exact ⟨rfl, rfl⟩
    · rw [decide_eq_false (fun h => h2 h.2)]
      have g1 : decide ((2 : Int) ≤ n) = true := by simpa using h1
      have g2 : decide (n < (N : Int)) = false := by simpa using h2
      go_enter Try.func33, Try.ntmps33
      go_wp2
      all_goals refine bodyPost_ret (by simp [results, Try.results33, go_sem]; rfl) rfl ?_
      all_goals exact ⟨rfl, rfl⟩
  · rw [decide_eq_false (fun h => h1 h.1)]
    have g1 : decide ((2 : Int) ≤ n) = false := by simpa using h1
    go_enter Try.func33, Try.ntmps33
    go_wp2
    all_goals refine bodyPost_ret (by simp [results, Try.results33, go_sem]; rfl) rfl ?_
    all_goals exact ⟨rfl, rfl⟩
theorem rmark_any (w : World) (q g N : Nat) (last : Int) (f : Nat → Nat) (h : XI w q g N last f) (n : Int) :
    Calls Try.prog 28 #[.pointer (some ⟨q, 0, none⟩), .int .i64 n] w fun e w' => e = .returned (.int .i64 (markE N f n)) ∧ XI w' q g N last (markF N f n) ∧ Fr (QG q g) w w' := by
  have HB := Lib.hid (block_any w q g N last f h n)
  have HX := Lib.hid h
  obtain ⟨cap, c0, hc1, hc2⟩ := h.c0
  clear h
  by_cases h1 : n < 2 ∨ (N : Int) ≤ n
  · rw [decide_eq_false (by omega)] at HB
    go_enter Try.func28, Try.ntmps28
    go_wp2_with fail
    refine HB.out.mono ?_
    rintro e w' ⟨rfl, hw⟩
    rw [hw]
    clear hw HB
    go_wp2_with fail
    all_goals refine bodyPost_ret (by simp [results, Try.results28, go_sem]; rfl) rfl ?_
    all_goals unfold markE markF; rw [if_pos h1, if_pos h1]; exact ⟨rfl, HX.out, Fr.refl _ _⟩
  · rw [decide_eq_true (by omega)] at HB
    obtain ⟨m, rfl⟩ : ∃ m : Nat, n = m := ⟨n.toNat, by omega⟩
    have hm : m < N := by omega
    have c1 := HX.out.at m hm
    have f1 := HX.out.freeg m
    have k0 : (0 : Int) ≤ (m : Int) := by omega
    have k1 : (m : Int) < (N : Int) := by omega
    have HH := Lib.hid h1
    clear h1
    by_cases h2 : f m = 0
    · have HS := Lib.hid (HX.out.set m 1 hm)
      rw [h2, show eN 0 = 0 from rfl] at c1
      rw [show eN 1 = 1 from rfl] at HS
      go_enter Try.func28, Try.ntmps28
      go_wp2_with fail
      refine HB.out.mono ?_
      rintro e w' ⟨rfl, hw⟩
      rw [hw]
      clear hw HB
      go_wp2_with fail
      all_goals refine bodyPost_ret (by simp [results, Try.results28, go_sem]; rfl) rfl ?_
      all_goals unfold markE markF; rw [if_neg HH.out, if_neg HH.out, if_pos (by simpa using h2), if_pos (by simpa using h2)]; exact ⟨rfl, HS.out, qg_set _ _ _ _ _⟩
    · have h3 : ¬ eN (f m) = 0 := fun e => h2 (eN_0.1 e)
      obtain ⟨y, hy⟩ : ∃ y, y = eN (f m) := ⟨_, rfl⟩
      rw [← hy] at c1 h3
      have hb : (y != 0) = true := by simpa using h3
      clear hy
      go_enter Try.func28, Try.ntmps28
      go_wp2_with fail
      refine HB.out.mono ?_
      rintro e w' ⟨rfl, hw⟩
      rw [hw]
      clear hw HB
      go_wp2_with fail
      all_goals refine bodyPost_ret (by simp [results, Try.results28, go_sem]; rfl) rfl ?_
      all_goals unfold markE markF; rw [if_neg HH.out, if_neg HH.out, if_neg (by simpa using h2), if_neg (by simpa using h2)]; exact ⟨rfl, HX.out, Fr.refl _ _⟩
theorem rgive_any (w : World) (q g N : Nat) (last : Int) (f : Nat → Nat) (h : XI w q g N last f) (h4 : ∀ i, f i < 4) (n : Int) :
    Calls Try.prog 27 #[.pointer (some ⟨q, 0, none⟩), .int .i64 n] w fun e w' => e = .returned (.int .i64 (giveE N f n)) ∧ XI w' q g N last (giveF N f n) ∧ Fr (QG q g) w w' := by
  have HB := Lib.hid (block_any w q g N last f h n)
  have HX := Lib.hid h
  obtain ⟨cap, c0, hc1, hc2⟩ := h.c0
  clear h
  by_cases h1 : n < 2 ∨ (N : Int) ≤ n
  · rw [decide_eq_false (by omega)] at HB
    go_enter Try.func27, Try.ntmps27
    go_wp2_with fail
    refine HB.out.mono ?_
    rintro e w' ⟨rfl, hw⟩
    rw [hw]
    clear hw HB
    go_wp2_with fail
    all_goals refine bodyPost_ret (by simp [results, Try.results27, go_sem]; rfl) rfl ?_
    all_goals unfold giveE giveF; rw [if_pos h1, if_pos h1]; exact ⟨rfl, HX.out, Fr.refl _ _⟩
  · rw [decide_eq_true (by omega)] at HB
    obtain ⟨m, rfl⟩ : ∃ m : Nat, n = m := ⟨n.toNat, by omega⟩
    have hm : m < N := by omega
    have c1 := HX.out.at m hm
    have f1 := HX.out.freeg m
    have k0 : (0 : Int) ≤ (m : Int) := by omega
    have k1 : (m : Int) < (N : Int) := by omega
    have h4m := h4 m
    have HH := Lib.hid h1
    clear h1 h4
    by_cases h2 : f m = 2
    · have HS := Lib.hid (HX.out.set m 0 hm)
      rw [h2, show eN 2 = 3 from rfl] at c1
      rw [show eN 0 = 0 from rfl] at HS
      go_enter Try.func27, Try.ntmps27
      go_wp2_with fail
      refine HB.out.mono ?_
      rintro e w' ⟨rfl, hw⟩
      rw [hw]
      clear hw HB
      go_wp2_with fail
      all_goals refine bodyPost_ret (by simp [results, Try.results27, go_sem]; rfl) rfl ?_
      all_goals unfold giveE giveF; rw [if_neg HH.out, if_neg HH.out, if_pos (by simp [h2]), if_pos (by simpa using h2)]; exact ⟨rfl, HS.out, qg_set _ _ _ _ _⟩
    · by_cases h3 : f m = 1
      · have HS := Lib.hid (HX.out.set m 3 hm)
        rw [h3, show eN 1 = 1 from rfl] at c1
        rw [show eN 3 = 2 from rfl] at HS
        go_enter Try.func27, Try.ntmps27
        go_wp2_with fail
        refine HB.out.mono ?_
        rintro e w' ⟨rfl, hw⟩
        rw [hw]
        clear hw HB
        go_wp2_with fail
        all_goals refine bodyPost_ret (by simp [results, Try.results27, go_sem]; rfl) rfl ?_
        all_goals unfold giveE giveF; rw [if_neg HH.out, if_neg HH.out, if_pos (by simp [h3]), if_neg (by simp [h3]), if_pos (by simpa using h3)]; exact ⟨rfl, HS.out, qg_set _ _ _ _ _⟩
      · have q1 : ¬ eN (f m) = 3 := fun e => h2 ((eN_3 h4m).1 e)
        have q2 : ¬ eN (f m) = 1 := fun e => h3 (eN_1.1 e)
        obtain ⟨y, hy⟩ : ∃ y, y = eN (f m) := ⟨_, rfl⟩
        rw [← hy] at c1 q1 q2
        have hb1 : (y == 3) = false := by simpa using q1
        have hb2 : (y == 1) = false := by simpa using q2
        clear hy
        go_enter Try.func27, Try.ntmps27
        go_wp2_with fail
        refine HB.out.mono ?_
        rintro e w' ⟨rfl, hw⟩
        rw [hw]
        clear hw HB
        go_wp2_with fail
        all_goals refine bodyPost_ret (by simp [results, Try.results27, go_sem]; rfl) rfl ?_
        all_goals unfold giveE giveF; rw [if_neg HH.out, if_neg HH.out, if_neg (by simp [h2, h3]), if_neg (by simpa using h2), if_neg (by simpa using h3)]; exact ⟨rfl, HX.out, Fr.refl _ _⟩
theorem is_any (w : World) (q g N : Nat) (last : Int) (f : Nat → Nat) (h : XI w q g N last f) (h4 : ∀ i, f i < 4) (n : Int) :
    Calls Try.prog 21 #[.pointer (some ⟨q, 0, none⟩), .int .i64 n] w fun e w' => e = .returned (.bool (tkB N f n)) ∧ w' = w := by
  obtain ⟨cap, c0, hc1, hc2⟩ := h.c0
  by_cases h1 : 0 ≤ n
  · by_cases h2 : n < (N : Int)
    · obtain ⟨m, rfl⟩ : ∃ m : Nat, n = m := ⟨n.toNat, by omega⟩
      have hm : m < N := by omega
      have c1 := h.at m hm
      have g1 : decide ((0 : Int) ≤ (m : Int)) = true := by simp
      have g2 : decide ((m : Int) < (N : Int)) = true := by simpa using h2
      have h4m := h4 m
      clear h h4
      by_cases h3 : f m = 1
      · rw [h3, show eN 1 = 1 from rfl] at c1
        have e1 : tkB N f (m : Int) = true := by unfold tkB; exact decide_eq_true ⟨h1, h2, .inl (by simpa using h3)⟩
        rw [e1]
        clear e1
        go_enter Try.func21, Try.ntmps21
        go_wp2_with fail
        all_goals refine bodyPost_ret (by simp [results, Try.results21, go_sem]; rfl) rfl ?_
        all_goals exact ⟨rfl, rfl⟩
      · by_cases h5 : f m = 2
        · rw [h5, show eN 2 = 3 from rfl] at c1
          have e1 : tkB N f (m : Int) = true := by unfold tkB; exact decide_eq_true ⟨h1, h2, .inr (by simpa using h5)⟩
          rw [e1]
          clear e1 h3
          go_enter Try.func21, Try.ntmps21
          go_wp2_with fail
          all_goals refine bodyPost_ret (by simp [results, Try.results21, go_sem]; rfl) rfl ?_
          all_goals exact ⟨rfl, rfl⟩
        · have e1 : tkB N f (m : Int) = false := by unfold tkB; exact decide_eq_false (fun h => by have := h.2.2; simp at this; omega)
          rw [e1]
          have q1 : ¬ eN (f m) = 3 := fun e => h5 ((eN_3 h4m).1 e)
          have q2 : ¬ eN (f m) = 1 := fun e => h3 (eN_1.1 e)
          obtain ⟨y, hy⟩ : ∃ y, y = eN (f m) := ⟨_, rfl⟩
          rw [← hy] at c1 q1 q2
          have hb1 : (y == 3) = false := by simpa using q1
          have hb2 : (y == 1) = false := by simpa using q2
          clear e1 hy
          go_enter Try.func21, Try.ntmps21
          go_wp2_with fail
          all_goals refine bodyPost_ret (by simp [results, Try.results21, go_sem]; rfl) rfl ?_
          all_goals exact ⟨rfl, rfl⟩
    · have g1 : decide ((0 : Int) ≤ n) = true := by simpa using h1
      have g2 : decide (n < (N : Int)) = false := by simpa using h2
      have e1 : tkB N f n = false := by unfold tkB; exact decide_eq_false (fun h => h2 h.2.1)
      rw [e1]
      clear e1 h h4
      go_enter Try.func21, Try.ntmps21
      go_wp2_with fail
      all_goals refine bodyPost_ret (by simp [results, Try.results21, go_sem]; rfl) rfl ?_
      all_goals exact ⟨rfl, rfl⟩
  · have g1 : decide ((0 : Int) ≤ n) = false := by simpa using h1
    have e1 : tkB N f n = false := by unfold tkB; exact decide_eq_false (fun h => h1 h.1)
    rw [e1]
    clear e1 h h4
    go_enter Try.func21, Try.ntmps21
    go_wp2_with fail
    all_goals refine bodyPost_ret (by simp [results, Try.results21, go_sem]; rfl) rfl ?_
    all_goals exact ⟨rfl, rfl⟩
end Go.Proofs.Ytbkbfkaklhojgaa
