/- find, Keys, with, without. -/
import Derived.Test.YtefjpljjdjecjaaYa
import Derived.Test.YtefjpljjdjecjaaWl
namespace Go.Proofs.Ytefjpljjdjecjaa
open Go.RowKit
def hasE (k : Int) (e : He) : Bool := e.1 == k
/-- What find tells. -/
def fI (L : List He) (k : Int) : Int := match L.findIdx? (hasE k) with
  | some i => i
  | none => -1
theorem fI_at {L : List He} {k : Int} {j : Nat} {e : He} (h : L[j]? = some e) (hk : e.1 = k) (hn : ∀ x ∈ L.take j, x.1 ≠ k) : fI L k = j := by
  have hj := (List.getElem?_eq_some_iff.1 h).1
  have : L.findIdx? (hasE k) = some j := by
    rw [List.findIdx?_eq_some_iff_getElem]
    refine ⟨hj, ?_, fun i hi => ?_⟩
    · have := (List.getElem?_eq_some_iff.1 h).2
      rw [this]; simp [hasE, hk]
    · have : L[i] ∈ L.take j := by
        rw [List.mem_take_iff_getElem]
        exact ⟨i, by omega, rfl⟩
      have := hn _ this
      simp [hasE, this]
  unfold fI
  rw [this]
theorem fI_none {L : List He} {k : Int} (hn : ∀ x ∈ L, x.1 ≠ k) : fI L k = -1 := by
  have : L.findIdx? (hasE k) = none := by
    rw [List.findIdx?_eq_none_iff]
    intro x hx
    simp [hasE, hn x hx]
  unfold fI
  rw [this]
theorem fI_cases (L : List He) (k : Int) : (fI L k = -1 ∧ hasK L k = false) ∨ ∃ i : Nat, fI L k = i ∧ i < L.length ∧ hasK L k = true ∧ ∃ e, L[i]? = some e ∧ e.1 = k := by
  cases h : L.findIdx? (hasE k) with
  | none =>
    left
    refine ⟨by unfold fI; rw [h], ?_⟩
    rw [List.findIdx?_eq_none_iff] at h
    unfold hasK
    rw [List.any_eq_false]
    intro x hx
    have := h x hx
    simpa [hasE] using this
  | some i =>
    right
    refine ⟨i, by unfold fI; rw [h], ?_⟩
    rw [List.findIdx?_eq_some_iff_getElem] at h
    obtain ⟨hi, h1, _⟩ := h
    refine ⟨hi, ?_, L[i], List.getElem?_eq_getElem hi, by simpa [hasE] using h1⟩
    unfold hasK
    rw [List.any_eq_true]
    exact ⟨L[i], List.getElem_mem hi, by simpa [hasE] using h1⟩
set_option maxRecDepth 100000 in
theorem find_any (w : World) (v : Value) (L : List He) (h : HA w v L) (hl : L.length ≤ 20000) (k : Int) :
    Calls Try.prog 34 #[v, .int .i64 k] w fun e w' => e = .returned (.int .i64 (fI L k)) ∧ w = w' := by
  obtain ⟨A, c, rfl, hc1, hc2⟩ := h.shape
  have HH := Lib.hid h
  clear h
  generalize hm : L.length = m at *
  have HM := Lib.hid hm
  clear hm
  go_enter Try.func34, Try.ntmps34
  go_wp2_with fail
  go_loopw [5] (fun i wr => ∃ j : Nat, j ≤ m ∧ i = .int .i64 j ∧ (∀ x ∈ L.take j, x.1 ≠ k) ∧ w = wr) (fun i _ => m - (intOf i).toNat)
  case atStart => exact ⟨0, by omega, rfl, by simp, rfl⟩
  case round =>
    obtain ⟨j, hj, rfl, hn, rfl⟩ := hrel
    have HN := Lib.hid hn
    clear hn
    by_cases hlt : j < m
    · obtain ⟨e, he⟩ : ∃ e, L[j]? = some e := ⟨L[j]'(by rw [HM.out]; exact hlt), List.getElem?_eq_getElem _⟩
      obtain ⟨b, off, rfl, hb, _, hat⟩ := HH.out.at j e he
      have d0 : w.cell? ⟨b, off + j * 513, none⟩ = some (.int .i64 e.1) := hat 0 (by omega)
      have HE := Lib.hid he
      have hlt' : (j : Int) < (m : Int) := by omega
      have j0 : (0 : Int) ≤ (j : Int) := by omega
      have hjc : (j : Int) < (c : Int) := by omega
      clear hat he
      by_cases hk : e.1 = k
      · have hk' : (e.1 == k) = true := by simpa using hk
        have HF : Hid (fI L k = j) := Lib.hid (fI_at HE.out hk HN.out)
        clear hk
        go_wp2_with fail
        all_goals refine bodyPost_ret (by simp [results, Try.results34, go_sem]; rfl) rfl ?_
        all_goals exact ⟨by rw [HF.out], rfl⟩
      · have hk' : (e.1 == k) = false := by simpa using hk
        have HK := Lib.hid hk
        clear hk
        go_wp2_with fail
        go_roundw
        case rel =>
          refine ⟨j + 1, by omega, by go_num, fun x hx => ?_, trivial⟩
          rw [List.take_add_one, HE.out] at hx
          rcases List.mem_append.1 hx with hx | hx
          · exact HN.out x hx
          · simp at hx
            rw [hx]; exact HK.out
        case measure => simp [intOf]; omega
    · obtain rfl : j = m := by omega
      have HF : Hid (fI L k = -1) := Lib.hid (fI_none (by have := HN.out; rwa [List.take_of_length_le (by rw [HM.out]; exact Nat.le_refl _)] at this))
      go_wp2_with fail
      all_goals refine bodyPost_ret (by simp [results, Try.results34, go_sem]; rfl) rfl ?_
      all_goals exact ⟨by rw [HF.out], rfl⟩
def KeH (w : World) (L : List He) (m : Nat) (v i : Value) (W : World) : Prop := ∃ j : Nat, j ≤ m ∧ i = .int .i64 j ∧ W.ownsRow w.heap.size 3 1 v j ((ksP (L.take j)).map I64) ∧ Below w.heap.size w W
set_option maxHeartbeats 2000000 in
set_option maxRecDepth 100000 in
theorem rkeys_any (w : World) (v : Value) (L : List He) (h : HA w v L) (hl : L.length ≤ 20000) :
    Calls Try.prog 38 #[v] w fun e w' => ∃ u, e = .returned u ∧ IntsAt w.heap.size (ksP L) u w' ∧ Below w.heap.size w w' := by
  obtain ⟨A, c, rfl, hc1, hc2⟩ := h.shape
  have HH := Lib.hid h
  clear h
  generalize hm : L.length = m at *
  have HM := Lib.hid hm
  clear hm
  go_enter Try.func38, Try.ntmps38
  go_wp2_with fail
  go_loopw [3, 4] (fun v i wr => KeH w L m v i wr) (fun _ i _ => m - (intOf i).toNat)
  case atStart => exact ⟨0, by omega, rfl, World.ownsRow_nil _ _ _ _, Below.refl _ _⟩
  case round =>
    obtain ⟨j, hj, rfl, ho, hb⟩ := hrel
    obtain ⟨A3, c3, rfl⟩ : ∃ A3 c3, u3 = .slice A3 j c3 := by
      rcases ho.2 with ⟨rfl, rfl⟩ | ⟨g, cap, cur, rfl, _⟩
      · exact ⟨_, _, rfl⟩
      · exact ⟨_, _, rfl⟩
    have HO := Lib.hid ho
    have HB := Lib.hid hb
    clear ho hb
    by_cases hlt : j < m
    · obtain ⟨e, he⟩ : ∃ e, L[j]? = some e := ⟨L[j]'(by rw [HM.out]; exact hlt), List.getElem?_eq_getElem _⟩
      obtain ⟨b, off, rfl, hbl, _, hat⟩ := HH.out.at j e he
      have d0 : wr.cell? ⟨b, off + j * 513, none⟩ = some (.int .i64 e.1) := (HB.out.cell (p := ⟨b, off + j * 513, none⟩) hbl).trans (hat 0 (by omega))
      have HT : Hid (ksP (L.take (j + 1)) = ksP (L.take j) ++ [e.1]) := Lib.hid (by rw [List.take_add_one, he]; simp [ksP])
      have hlt' : (j : Int) < (m : Int) := by omega
      have j0 : (0 : Int) ≤ (j : Int) := by omega
      have hjc : (j : Int) < (c : Int) := by omega
      have hnew : RowAt (wr.alloc (.cells #[.int .i64 e.1] 3)) wr.heap.size 3 [.int .i64 e.1] := RowAt.new wr 3 _
      obtain ⟨i, z, e1, e2, e3, e4, e5⟩ := info3
      obtain ⟨v', w', hrun, ho', hg', _, hb'⟩ := run_app (P := Try.prog) (wr.alloc (.cells #[.int .i64 e.1] 3)) w.heap.size 33 33 3 i z 8 Try.underlying33 e1 e2 e3 e4 e5 (.slice A3 j c3) j _ (HO.out.alloc _) (some ⟨wr.heap.size, 0, none⟩) 1 1 [.int .i64 e.1] (SliceAt.row hnew) (fun h => by cases h) (fun u hu => by simp at hu; subst hu; rfl) (by unfold maxLen; omega) (by omega) (by have := HB.out.size; simp; omega)
      have HRUN := Lib.hid hrun
      have HP : Hid (KeH w L m v' (.int .i64 ((j + 1 : Nat) : Int)) w') := Lib.hid ⟨j + 1, by omega, rfl, by rw [HT.out, List.map_append]; exact ho', (bA HB.out _).trans hb'⟩
      clear hat he hnew hrun ho' hg' hb' e1 e2 e3 e4 e5
      go_wp2_with (at_builtin; refine wpList_app rfl (.tmp 11) (.tmp 17) 33 33 rfl rfl HRUN.out rfl rfl ?_)
      go_roundw
      case rel => exact HP.out
      case measure => simp [intOf]; omega
    · obtain rfl : j = m := by omega
      have HI : Hid (IntsAt w.heap.size (ksP L) (.slice A3 j c3) wr) := Lib.hid (by
        have h := HO.out
        rw [List.take_of_length_le (by rw [HM.out]; exact Nat.le_refl _)] at h
        have hln : (ksP L).length = j := by simp [ksP, HM.out]
        refine owned_ints (e := 3) ?_
        rw [hln]
        exact h)
      go_wp2_with fail
      all_goals refine bodyPost_ret (by simp [results, Try.results38, go_sem]; rfl) rfl ?_
      all_goals exact ⟨_, rfl, HI.out, HB.out⟩
end Go.Proofs.Ytefjpljjdjecjaa
