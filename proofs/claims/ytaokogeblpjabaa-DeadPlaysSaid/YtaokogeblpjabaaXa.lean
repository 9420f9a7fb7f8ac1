/- The document's table in memory: a row of pairs; tree, block, at. -/
import Derived.Test.YtaokogeblpjabaaWk
namespace Go.Proofs.Ytaokogeblpjabaa
open Go.RowKit
abbrev Pr := Int × Int
def flat (L : List Pr) : List Value := L.flatMap fun p => [I64 p.1, I64 p.2]
theorem flat_cons (p : Pr) (L : List Pr) : flat (p :: L) = I64 p.1 :: I64 p.2 :: flat L := rfl
theorem flat_append (L L' : List Pr) : flat (L ++ L') = flat L ++ flat L' := by simp [flat]
theorem flat_len : ∀ L : List Pr, (flat L).length = L.length * 2
  | [] => rfl
  | p :: L => by rw [flat_cons]; simp only [List.length_cons, flat_len L]; omega
theorem flat_at : ∀ (L : List Pr) (i : Nat) (p : Pr), L[i]? = some p → (flat L)[i * 2]? = some (I64 p.1) ∧ (flat L)[i * 2 + 1]? = some (I64 p.2)
  | [], _, _, h => by simp at h
  | q :: L, 0, p, h => by
    obtain rfl : q = p := by simpa using h
    exact ⟨rfl, rfl⟩
  | q :: L, i + 1, p, h => by
    rw [flat_cons, show (i + 1) * 2 = i * 2 + 1 + 1 by omega]
    exact flat_at L i p (by simpa using h)
theorem flat_take : ∀ (L : List Pr) (i : Nat), (flat L).take (i * 2) = flat (L.take i)
  | [], i => by simp [flat]
  | q :: L, 0 => by simp [flat]
  | q :: L, i + 1 => by
    rw [flat_cons, show (i + 1) * 2 = i * 2 + 1 + 1 by omega, List.take_succ_cons, List.take_succ_cons, List.take_succ_cons, flat_cons, flat_take L i]
theorem flat_drop : ∀ (L : List Pr) (i : Nat), (flat L).drop (i * 2) = flat (L.drop i)
  | [], i => by simp [flat]
  | q :: L, 0 => by simp [flat]
  | q :: L, i + 1 => by
    rw [flat_cons, show (i + 1) * 2 = i * 2 + 1 + 1 by omega, List.drop_succ_cons, List.drop_succ_cons, List.drop_succ_cons, flat_drop L i]
/-- The document's table in memory: its block q, the row of pairs (if any) in block g. -/
def XT (W : World) (q g : Nat) (L : List Pr) : Prop := ∃ v, RowAt W q 43 [v] ∧ W.ownsRow 0 61 2 v L.length (flat L) ∧ (∀ k, v.ownBlock = some k → k = g) ∧ g < W.heap.size
abbrev QG (q g : Nat) : Nat → Prop := fun k => k = q ∨ k = g
theorem own2_fr {M : Nat → Prop} {v : Value} {n : Nat} {xs : List Value} {w w' : World} {g : Nat} (h : w.ownsRow 0 61 2 v n xs) (hg : ∀ k, v.ownBlock = some k → k = g) (hf : Fr M w w') (hm : ¬ M g) : w'.ownsRow 0 61 2 v n xs := by
  rcases h.2 with ⟨e, h0⟩ | ⟨g', cap, cur, e, hb, hh, h1⟩
  · exact ⟨h.1, .inl ⟨e, h0⟩⟩
  · refine ⟨h.1, .inr ⟨g', cap, cur, e, hb, ?_, h1⟩⟩
    have : g' = g := hg g' (by rw [e]; rfl)
    rw [hf.block g' (Array.getElem?_eq_some_iff.1 hh).1 (by rw [this]; exact hm)]
    exact hh
theorem XT.fr {M : Nat → Prop} {W W' : World} {q g : Nat} {L : List Pr} (h : XT W q g L) (hf : Fr M W W') (h1 : ¬ M q) (h2 : ¬ M g) : XT W' q g L := by
  obtain ⟨v, hr, ho, hg, hl⟩ := h
  exact ⟨v, hr.fr hf h1, own2_fr ho hg hf h2, hg, Nat.lt_of_lt_of_le hl hf.size⟩
theorem XT.next {W W' : World} {q g : Nat} {L : List Pr} (h : XT W q g L) (hb : Below W.heap.size W W') : XT W' q g L := h.fr (M := fun _ => False) (Fr.of_below hb) (fun x => x) (fun x => x)
theorem XT.ltg {W : World} {q g : Nat} {L : List Pr} (h : XT W q g L) : g < W.heap.size := by
  obtain ⟨v, _, _, _, hl⟩ := h
  exact hl
theorem XT.lt {W : World} {q g : Nat} {L : List Pr} (h : XT W q g L) : q < W.heap.size := by
  obtain ⟨v, hr, _⟩ := h
  exact hr.lt
theorem XT.c0 {W : World} {q g : Nat} {L : List Pr} (h : XT W q g L) : ∃ A cap, W.cell? ⟨q, 0, none⟩ = some (.slice A L.length cap) ∧ (∀ (i : Nat) (p : Pr), L[i]? = some p → A = some ⟨g, 0, none⟩ ∧ g < W.heap.size ∧ (i : Int) < (cap : Int) ∧ W.cell? ⟨g, i * 2, none⟩ = some (.int .i64 p.1) ∧ W.cell? ⟨g, i * 2 + 1, none⟩ = some (.int .i64 p.2)) := by
  obtain ⟨v, hr, ho, hg, _⟩ := h
  rcases ho.2 with ⟨rfl, h0⟩ | ⟨g', cap, cur, rfl, hb, hh, h1, h2, h3, h4⟩
  · refine ⟨none, 0, ?_, fun i p hp => ?_⟩
    · rw [h0]; exact hr.cell 0
    · have := (List.getElem?_eq_some_iff.1 hp).1
      omega
  · obtain rfl : g' = g := hg g' rfl
    refine ⟨some ⟨g', 0, none⟩, cap, hr.cell 0, fun i p hp => ?_⟩
    have hi := (List.getElem?_eq_some_iff.1 hp).1
    obtain ⟨e1, e2⟩ := flat_at L i p hp
    refine ⟨rfl, (Array.getElem?_eq_some_iff.1 hh).1, by omega, ?_, ?_⟩
    · rw [ho.cellAt (i * 2) (by omega), e1]; rfl
    · rw [ho.cellAt (i * 2 + 1) (by omega), e2]; rfl
theorem tree_any (w : World) (a : Int) : Calls Try.prog 40 #[.int .i64 a] w fun e w' => e = .returned (.bool (decide (0 ≤ a ∧ a ≤ 6))) ∧ w' = w := by
  by_cases h1 : 0 ≤ a
  · have g1 : decide ((0 : Int) ≤ a) = true := by simpa using h1
    have g1' : decide (a ≥ (0 : Int)) = true := by simpa using h1
    by_cases h2 : a ≤ 6
    · rw [decide_eq_true ⟨h1, h2⟩]
      have g2 : decide (a ≤ (6 : Int)) = true := by simpa using h2
      go_enter Try.func40, Try.ntmps40
      go_wp2
      all_goals refine bodyPost_ret (by simp [results, Try.results40, go_sem]; rfl) rfl ?_
      all_goals exact ⟨rfl, rfl⟩
    · rw [decide_eq_false (fun h => h2 h.2)]
      have g2 : decide (a ≤ (6 : Int)) = false := by simpa using h2
      go_enter Try.func40, Try.ntmps40
      go_wp2
      all_goals refine bodyPost_ret (by simp [results, Try.results40, go_sem]; rfl) rfl ?_
      all_goals exact ⟨rfl, rfl⟩
  · rw [decide_eq_false (fun h => h1 h.1)]
    have g1 : decide ((0 : Int) ≤ a) = false := by simpa using h1
    have g1' : decide (a ≥ (0 : Int)) = false := by simpa using h1
    go_enter Try.func40, Try.ntmps40
    go_wp2
    all_goals refine bodyPost_ret (by simp [results, Try.results40, go_sem]; rfl) rfl ?_
    all_goals exact ⟨rfl, rfl⟩
theorem block_any (w : World) (a : Int) : Calls Try.prog 41 #[.int .i64 a] w fun e w' => e = .returned (.bool (decide (2 ≤ a ∧ a < 8192))) ∧ w' = w := by
  by_cases h1 : 2 ≤ a
  · have g1 : decide ((2 : Int) ≤ a) = true := by simpa using h1
    have g1' : decide (a ≥ (2 : Int)) = true := by simpa using h1
    by_cases h2 : a < 8192
    · rw [decide_eq_true ⟨h1, h2⟩]
      have g2 : decide (a < (8192 : Int)) = true := by simpa using h2
      go_enter Try.func41, Try.ntmps41
      go_wp2
      all_goals refine bodyPost_ret (by simp [results, Try.results41, go_sem]; rfl) rfl ?_
      all_goals exact ⟨rfl, rfl⟩
    · rw [decide_eq_false (fun h => h2 h.2)]
      have g2 : decide (a < (8192 : Int)) = false := by simpa using h2
      go_enter Try.func41, Try.ntmps41
      go_wp2
      all_goals refine bodyPost_ret (by simp [results, Try.results41, go_sem]; rfl) rfl ?_
      all_goals exact ⟨rfl, rfl⟩
  · rw [decide_eq_false (fun h => h1 h.1)]
    have g1 : decide ((2 : Int) ≤ a) = false := by simpa using h1
    have g1' : decide (a ≥ (2 : Int)) = false := by simpa using h1
    go_enter Try.func41, Try.ntmps41
    go_wp2
    all_goals refine bodyPost_ret (by simp [results, Try.results41, go_sem]; rfl) rfl ?_
    all_goals exact ⟨rfl, rfl⟩
theorem st61 : Try.prog.stoodInHeld 61 = false := by kernel_rfl
theorem gd61 : Try.prog.eqGuardType Try.prog.depth 61 = false := by kernel_rfl
theorem eq61 (w : World) (a k a' k' : Int) : (binOp .eql 61 (.agg #[.int .i64 a, .int .i64 k]) (.agg #[.int .i64 a', .int .i64 k'])).run Try.prog w = .ok (.bool (a == a' && k == k')) w := by
  have h1 := Try.underlying61
  have h3 := Try.underlying3
  have h2 := st61
  simp [go_sem, h1, h2, h3]
  by_cases e1 : a = a'
  · by_cases e2 : k = k' <;> simp [e1, e2]
  · simp [e1]
/-- Where a pair stands. -/
def AtP (L : List Pr) (p : Pr) : Option Nat → Prop
  | none => p ∉ L
  | some i => L[i]? = some p
def atE : Option Nat → Int
  | none => -1
  | some i => i
def AtI (w : World) (q g : Nat) (L : List Pr) (p : Pr) (x : Nat) (i : Value) (W : World) : Prop := ∃ k : Nat, k ≤ L.length ∧ i = .int .i64 k ∧ p ∉ L.take k ∧ XT W q g L ∧ RowAt W x 61 [.int .i64 p.1, .int .i64 p.2] ∧ Below w.heap.size w W
set_option maxHeartbeats 1000000 in
theorem at_any (w : World) (q g : Nat) (L : List Pr) (h : XT w q g L) (hL : L.length ≤ 60000) (a k : Int) :
    Calls Try.prog 42 #[.pointer (some ⟨q, 0, none⟩), .agg #[.int .i64 a, .int .i64 k]] w fun e w' => ∃ r, e = .returned (.int .i64 (atE r)) ∧ AtP L (a, k) r ∧ Below w.heap.size w w' := by
  have hal : Below w.heap.size w (w.alloc (.cells #[.int .i64 a, .int .i64 k] 61)) := (Below.refl _ _).alloc (Nat.le_refl _) _
  have HX := Lib.hid (h.next hal)
  have HR := Lib.hid (RowAt.new w 61 [.int .i64 a, .int .i64 k])
  have HB := Lib.hid hal
  clear h hal
  have hl : L.length ≤ 60000 := hL
  go_enter Try.func42, Try.ntmps42
  go_wp2_with fail
  generalize w.alloc (.cells #[.int .i64 a, .int .i64 k] 61) = w1 at *
  obtain ⟨x, hx⟩ : ∃ x, x = w.heap.size := ⟨_, rfl⟩
  rw [← hx] at HR ⊢
  clear hx
  go_loopw [5] (fun i wr => AtI w q g L (a, k) x i wr) (fun i _ => L.length - (intOf i).toNat)
  case atStart => exact ⟨0, by omega, rfl, by simp, HX.out, HR.out, HB.out⟩
  case round =>
    obtain ⟨j, hj, rfl, hno, hx, hr, hb⟩ := hrel
    clear HX HR HB
    have HX := Lib.hid hx
    have HR := Lib.hid hr
    have HB := Lib.hid hb
    have HNO := Lib.hid hno
    clear hx hr hb hno
    obtain ⟨A, cap, c0, hat⟩ := HX.out.c0
    by_cases hlt : j < L.length
    · have hlt' : (j : Int) < (L.length : Int) := by omega
      have j0 : (0 : Int) ≤ (j : Int) := by omega
      obtain ⟨⟨a', k'⟩, hp⟩ : ∃ p, L[j]? = some p := ⟨L[j], List.getElem?_eq_getElem _⟩
      obtain ⟨rfl, hgl, hcap, d1, d2⟩ := hat j _ hp
      have HP := Lib.hid hp
      have hql := HX.out.lt
      have hxl := HR.out.lt
      have x0 : wr.cell? ⟨x, 0, none⟩ = some (.int .i64 a) := HR.out.cell 0
      have x1 : wr.cell? ⟨x, 1, none⟩ = some (.int .i64 k) := HR.out.cell 1
      clear hat hp hcap
      simp only at d1 d2
      go_wp2_with fail
      refine wp_region_bw wr.heap.size (by kernel_rfl) (by kernel_rfl) ?_
      have p0 := fun z : Bw wr.heap.size wr => (z.ok.cell hql).trans c0
      have p1 := fun z : Bw wr.heap.size wr => (z.ok.cell hgl).trans d1
      have p2 := fun z : Bw wr.heap.size wr => (z.ok.cell hgl).trans d2
      have p3 := fun z : Bw wr.heap.size wr => (z.ok.cell hxl).trans x0
      have p4 := fun z : Bw wr.heap.size wr => (z.ok.cell hxl).trans x1
      have heq := fun w => eq61 w a' k' a k
      have hgd := gd61
      obtain ⟨eb, heb⟩ : ∃ eb, eb = (a' == a && k' == k) := ⟨_, rfl⟩
      rw [← heb] at heq
      have HEB := Lib.hid heb
      clear heb
      repeat (go_big_quiet_step (fail))
      refine wpQuiet_nil ?_
      rintro w' ⟨y, rfl⟩
      have HXy := Lib.hid (HX.out.next y.ok)
      have HRy := Lib.hid (HR.out.next y.ok)
      have HBy := Lib.hid (bt HB.out y.ok)
      generalize y.val = wy at *
      clear p0 p1 p2 p3 p4 heq hgd c0 d1 d2 x0 x1
      cases eb with
      | true =>
        go_wp2_with fail
        all_goals refine bodyPost_ret (by simp [results, Try.results42, go_sem]; rfl) rfl ?_
        all_goals exact ⟨some j, rfl, by
          have := HEB.out
          simp at this
          show L[j]? = some (a, k)
          rw [HP.out, this.1, this.2], HBy.out⟩
      | false =>
        have HNO2 : Hid ((a, k) ∉ L.take (j + 1)) := Lib.hid (by
          rw [List.take_add_one, HP.out]
          intro h
          rcases List.mem_append.1 h with h | h
          · exact HNO.out h
          · have h2 : (a, k) = (a', k') := by simpa using h
            have := HEB.out
            cases h2
            simp at this)
        go_wp2_with fail
        go_roundw
        case rel => exact ⟨j + 1, by omega, by go_num, HNO2.out, HXy.out, HRy.out, HBy.out⟩
        case measure => simp [intOf]; omega
    · have hge : decide ((j : Int) < (L.length : Int)) = false := by simp; omega
      have HE : Hid ((a, k) ∉ L) := Lib.hid (by have := HNO.out; rwa [List.take_of_length_le (by omega)] at this)
      clear hat
      go_wp2_with fail
      all_goals refine bodyPost_ret (by simp [results, Try.results42, go_sem]; rfl) rfl ?_
      all_goals exact ⟨none, rfl, HE.out, HB.out⟩
end Go.Proofs.Ytaokogeblpjabaa
