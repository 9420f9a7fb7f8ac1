/- DigestSums, DigestTexts, DigestOn walked: true at every input. -/
import Derived.Test.YtfpmoamecjenlaaWe
import Derived.Test.YtfpmoamecjenlaaPl
namespace Go.Proofs.Ytfpmoamecjenlaa
open Go.RowKit

set_option maxHeartbeats 1000000 in
theorem digestSums_any (a : Option Addr) (len cap : Nat) (ps : List ByteArray) (u : Int) (s : ByteArray) (w : World) (h : SliceAt w a len (ps.map Value.string)) (hs : len ≤ maxLen) (hp : ∀ p ∈ ps, p.size ≤ maxLen) (hu : Is64 u) (hsz : s.size ≤ maxLen) :
    Calls Try.prog 3 #[.slice a len cap, .int .u64 u, .string s] w fun e w' => e = .returned (.bool true) ∧ Below w.heap.size w w' := by
  have hsz2 : s.size ≤ 9223372036854775807 := hsz
  have HZ := Lib.hid hsz
  have HR := Lib.hid h
  have HP := Lib.hid hp
  have HL := Lib.hid hs
  have HU := Lib.hid hu
  clear h hp hsz hs hu
  obtain ⟨lg, hlg⟩ : ∃ b, longF ps = b := ⟨_, rfl⟩
  have HG := Lib.hid hlg
  clear hlg
  go_enter Try.func3, Try.ntmps3
  go_wp2_with fail
  refine (lawlong_any a len cap ps _ HR.out HL.out).mono ?_
  rw [HG.out]
  rintro e w' ⟨rfl, rfl⟩
  cases lg with
  | true =>
    go_wp2_with fail
    refine (awake_any _).mono ?_
    rintro e w1 ⟨rfl, hb⟩
    go_wp2_with fail
    go_ret
    exact ⟨rfl, hb⟩
  | false =>
    by_cases h20 : 20000 < s.size
    · have h1 : (20000 : Int) < (s.size : Int) := by omega
      go_wp2_with fail
      refine (awake_any _).mono ?_
      rintro e w1 ⟨rfl, hb⟩
      go_wp2_with fail
      go_ret
      exact ⟨rfl, hb⟩
    · obtain ⟨x, e, hxe⟩ : ∃ x e, parseF s.data.toList = (x, e) := ⟨_, _, rfl⟩
      have HX := Lib.hid hxe
      clear hxe
      go_wp2_with fail
      refine (parse_lit _ x e _ HX.out).mono ?_
      rintro _ w' ⟨rfl, rfl⟩
      go_wp2_with fail
      refine (parseR_lit _ x e _ HX.out).mono ?_
      rintro _ w' ⟨rfl, rfl⟩
      go_wp2_with fail
      refine (sum_any _ _ HZ.out).mono ?_
      rintro _ w' ⟨rfl, rfl⟩
      go_wp2_with fail
      refine (sumR_any _ _ HZ.out).mono ?_
      rintro _ w' ⟨rfl, rfl⟩
      go_wp2_with fail
      refine (of_any a len cap ps _ HR.out HL.out HP.out).mono ?_
      rintro _ w1 ⟨rfl, hb1⟩
      go_wp2_with fail
      refine (ofR_any a len cap ps _ (HR.out.next hb1) HL.out HP.out).mono ?_
      rintro _ w2 ⟨rfl, hb2⟩
      go_wp2_with fail
      refine (text_any u HU.out.1 HU.out.2 _).mono ?_
      rintro _ w3 ⟨rfl, hb3⟩
      go_wp2_with fail
      refine (textR_any u HU.out.1 HU.out.2 _).mono ?_
      rintro _ w4 ⟨rfl, hb4⟩
      go_wp2_with fail
      refine (awake_any _).mono ?_
      rintro _ w5 ⟨rfl, hb5⟩
      go_wp2_with fail
      go_ret
      exact ⟨rfl, bt (bt (bt (bt hb1 hb2) hb3) hb4) hb5⟩

theorem str_eq (s : ByteArray) : (⟨s.data.toList.toArray⟩ : ByteArray) = s := by cases s; simp

set_option maxHeartbeats 1000000 in
theorem digestTexts_any (u : Int) (s : ByteArray) (w : World) (hu : Is64 u) (hsz : s.size ≤ maxLen) :
    Calls Try.prog 7 #[.int .u64 u, .string s] w fun e w' => e = .returned (.bool true) ∧ Below w.heap.size w w' := by
  have hsz2 : s.size ≤ 9223372036854775807 := hsz
  have HU := Lib.hid hu
  clear hsz hu
  by_cases h5 : 5000 < s.size
  · have h1 : (5000 : Int) < (s.size : Int) := by omega
    go_enter Try.func7, Try.ntmps7
    go_wp2_with fail
    refine (awake_any _).mono ?_
    rintro e w1 ⟨rfl, hb⟩
    go_wp2_with fail
    go_ret
    exact ⟨rfl, hb⟩
  · have hd : decide ((5000 : Int) < (s.size : Int)) = false := by simp; omega
    obtain ⟨x, e, hxe⟩ : ∃ x e, parseF s.data.toList = (x, e) := ⟨_, _, rfl⟩
    have HX := Lib.hid hxe
    have hcase : (e != 0) = true ∨ (e = 0 ∧ textL x = s.data.toList ∧ Is64 x) := by
      by_cases h0 : e = 0
      · subst h0; exact .inr ⟨rfl, text_parse _ _ hxe⟩
      · left; simp [h0]
    clear hxe
    go_enter Try.func7, Try.ntmps7
    go_wp2_with fail
    refine (awake_any _).mono ?_
    rintro _ w1 ⟨rfl, hb1⟩
    go_wp2_with fail
    refine (text_any u HU.out.1 HU.out.2 _).mono ?_
    rintro _ w2 ⟨rfl, hb2⟩
    go_wp2_with fail
    refine (parse_lit _ u 0 _ (by simpa using parse_text u HU.out)).mono ?_
    rintro _ w' ⟨rfl, rfl⟩
    go_wp2_with fail
    refine (parse_lit _ x e _ HX.out).mono ?_
    rintro _ w' ⟨rfl, rfl⟩
    rcases hcase with he | ⟨rfl, ht, h64⟩
    · go_wp2_with fail
      go_ret
      exact ⟨rfl, bt hb1 hb2⟩
    · have HT := Lib.hid ht
      have H64 := Lib.hid h64
      clear ht h64
      go_wp2_with fail
      refine (text_lit x s.data.toList _ H64.out.1 H64.out.2 HT.out).mono ?_
      rw [str_eq]
      rintro _ w3 ⟨rfl, hb3⟩
      go_wp2_with fail
      go_ret
      exact ⟨rfl, bt (bt hb1 hb2) hb3⟩

set_option maxHeartbeats 1000000 in
theorem digestOn_any (a b c : ByteArray) (w : World) (ha : a.size ≤ maxLen) (hb : b.size ≤ maxLen) (hc : c.size ≤ maxLen) :
    Calls Try.prog 8 #[.string a, .string b, .string c] w fun e w' => e = .returned (.bool true) ∧ Below w.heap.size w w' := by
  have ha2 : a.size ≤ 9223372036854775807 := ha
  have hb2 : b.size ≤ 9223372036854775807 := hb
  have hc2 : c.size ≤ 9223372036854775807 := hc
  clear ha hb hc
  by_cases h5 : 5000 < a.size ∨ 5000 < b.size ∨ 5000 < c.size
  · have hcases : 5000 < a.size ∨ (a.size ≤ 5000 ∧ 5000 < b.size) ∨ (a.size ≤ 5000 ∧ b.size ≤ 5000 ∧ 5000 < c.size) := by omega
    clear h5
    rcases hcases with h | ⟨h, h'⟩ | ⟨h, h', h''⟩
    · have d1 : decide ((5000 : Int) < (a.size : Int)) = true := by simp; omega
      go_enter Try.func8, Try.ntmps8
      go_wp2_with fail
      refine (awake_any _).mono ?_
      rintro e w1 ⟨rfl, hb⟩
      go_wp2_with fail
      go_ret
      exact ⟨rfl, hb⟩
    · have d1 : decide ((5000 : Int) < (a.size : Int)) = false := by simp; omega
      have d2 : decide ((5000 : Int) < (b.size : Int)) = true := by simp; omega
      go_enter Try.func8, Try.ntmps8
      go_wp2_with fail
      refine (awake_any _).mono ?_
      rintro e w1 ⟨rfl, hb⟩
      go_wp2_with fail
      go_ret
      exact ⟨rfl, hb⟩
    · have d1 : decide ((5000 : Int) < (a.size : Int)) = false := by simp; omega
      have d2 : decide ((5000 : Int) < (b.size : Int)) = false := by simp; omega
      have d3 : decide ((5000 : Int) < (c.size : Int)) = true := by simp; omega
      go_enter Try.func8, Try.ntmps8
      go_wp2_with fail
      refine (awake_any _).mono ?_
      rintro e w1 ⟨rfl, hb⟩
      go_wp2_with fail
      go_ret
      exact ⟨rfl, hb⟩
  · have d1 : decide ((5000 : Int) < (a.size : Int)) = false := by simp; omega
    have d2 : decide ((5000 : Int) < (b.size : Int)) = false := by simp; omega
    have d3 : decide ((5000 : Int) < (c.size : Int)) = false := by simp; omega
    have hsa : a.size ≤ 5000 := by omega
    have hsb : b.size ≤ 5000 := by omega
    have hsc : c.size ≤ 5000 := by omega
    clear h5
    go_enter Try.func8, Try.ntmps8
    go_wp2_with fail
    refine (awake_any _).mono ?_
    rintro e w1 ⟨rfl, hb⟩
    go_wp2_with fail
    refine (sum_any _ _ (by unfold maxLen; omega)).mono ?_
    rintro _ w' ⟨rfl, rfl⟩
    go_wp2_with fail
    refine (sum_any _ _ (by unfold maxLen; omega)).mono ?_
    rintro _ w' ⟨rfl, rfl⟩
    go_wp2_with fail
    refine (sum_any _ _ (by unfold maxLen; simp; omega)).mono ?_
    rintro _ w' ⟨rfl, rfl⟩
    go_wp2_with fail
    refine (sum_any _ _ (by unfold maxLen; simp; omega)).mono ?_
    rintro _ w' ⟨rfl, rfl⟩
    have hon := on_iff a.data.toList b.data.toList c.data.toList
    simp only [ByteArray.data_append, Array.toList_append]
    go_wp2_with fail
    go_ret
    exact ⟨rfl, hb⟩
end Go.Proofs.Ytfpmoamecjenlaa
