/- ask, Mark, Give, Settle, Back, Waits, Free, Taken. -/
import Derived.Test.YtbkbfkaklhojgaaWe
namespace Go.Proofs.Ytbkbfkaklhojgaa
open Go.RowKit Go.Shelf
def askE (N : Nat) (n : Int) : Int := if n < 2 ∨ (N : Int) ≤ n then 1 else 0
def markE (N : Nat) (f : Nat → Nat) (n : Int) : Int := if n < 2 ∨ (N : Int) ≤ n then 1 else if f n.toNat = 0 then 0 else 6
def markF (N : Nat) (f : Nat → Nat) (n : Int) : Nat → Nat := if n < 2 ∨ (N : Int) ≤ n then f else if f n.toNat = 0 then upd f n.toNat 1 else f
def giveE (N : Nat) (f : Nat → Nat) (n : Int) : Int := if n < 2 ∨ (N : Int) ≤ n then 1 else if f n.toNat = 2 ∨ f n.toNat = 1 then 0 else 5
def giveF (N : Nat) (f : Nat → Nat) (n : Int) : Nat → Nat := if n < 2 ∨ (N : Int) ≤ n then f else if f n.toNat = 2 then upd f n.toNat 0 else if f n.toNat = 1 then upd f n.toNat 3 else f
def tkB (N : Nat) (f : Nat → Nat) (n : Int) : Bool := decide (0 ≤ n ∧ n < (N : Int) ∧ (f n.toNat = 1 ∨ f n.toNat = 2))
theorem ask_any (w : World) (b N : Nat) (last : Int) (f : Nat → Nat) (h : SI w b N last f) (n : Int) :
    Calls Try.prog 24 #[.pointer (some ⟨b, 0, none⟩), .int .i64 n] w fun e w' => e = .returned (.int .i64 (askE N n)) ∧ Below w.heap.size w w' := by
  obtain ⟨c, ⟨L, hr, hs⟩, hcn⟩ := h
  have c1 := (hr.cell 0).trans hs.n
  clear hr hs hcn
  by_cases h1 : n < 2
  · have g1 : decide (n < 2) = true := by simpa using h1
    have : askE N n = 1 := by unfold askE; rw [if_pos (.inl h1)]
    rw [this]
    go_enter Try.func24, Try.ntmps24
    go_wp2
    all_goals refine bodyPost_ret (by simp [results, Try.results24, go_sem]; rfl) rfl ?_
    all_goals exact ⟨rfl, Below.refl _ _⟩
  · by_cases h2 : (N : Int) ≤ n
    · have : askE N n = 1 := by unfold askE; rw [if_pos (.inr h2)]
      rw [this]
      have g1 : decide (n < 2) = false := by simpa using h1
      have g2 : decide ((N : Int) ≤ n) = true := by simpa using h2
      go_enter Try.func24, Try.ntmps24
      go_wp2
      all_goals refine bodyPost_ret (by simp [results, Try.results24, go_sem]; rfl) rfl ?_
      all_goals exact ⟨rfl, Below.refl _ _⟩
    · have : askE N n = 0 := by unfold askE; rw [if_neg (by omega)]
      rw [this]
      have g1 : decide (n < 2) = false := by simpa using h1
      have g2 : decide ((N : Int) ≤ n) = false := by simpa using h2
      go_enter Try.func24, Try.ntmps24
      go_wp2
      all_goals refine bodyPost_ret (by simp [results, Try.results24, go_sem]; rfl) rfl ?_
      all_goals exact ⟨rfl, Below.refl _ _⟩
theorem waits_any (w : World) (b N : Nat) (last : Int) (f : Nat → Nat) (h : SI w b N last f) :
    Calls Try.prog 14 #[.pointer (some ⟨b, 0, none⟩)] w fun e w' => e = .returned (.int .i64 (cnt N f 3)) ∧ w' = w := by
  obtain ⟨c, ⟨L, hr, hs⟩, hcn⟩ := h
  have c1 := (hr.cell (8194 + 3)).trans (hs.ct 3 (by omega))
  rw [hcn.ct 3 (by omega)] at c1
  clear hr hs hcn
  go_enter Try.func14, Try.ntmps14
  go_wp2
  all_goals refine bodyPost_ret (by simp [results, Try.results14, go_sem]; rfl) rfl ?_
  all_goals exact ⟨rfl, rfl⟩
theorem free_any (w : World) (b N : Nat) (last : Int) (f : Nat → Nat) (h : SI w b N last f) :
    Calls Try.prog 15 #[.pointer (some ⟨b, 0, none⟩)] w fun e w' => e = .returned (.int .i64 (cnt N f 0)) ∧ w' = w := by
  obtain ⟨c, ⟨L, hr, hs⟩, hcn⟩ := h
  have c1 := (hr.cell (8194 + 0)).trans (hs.ct 0 (by omega))
  rw [hcn.ct 0 (by omega)] at c1
  clear hr hs hcn
  go_enter Try.func15, Try.ntmps15
  go_wp2
  all_goals refine bodyPost_ret (by simp [results, Try.results15, go_sem]; rfl) rfl ?_
  all_goals exact ⟨rfl, rfl⟩
theorem settle_any (w : World) (b N : Nat) (last : Int) (f : Nat → Nat) (h : SI w b N last f) (hN0 : 2 ≤ N) (hN : N ≤ 8192) :
    Calls Try.prog 11 #[.pointer (some ⟨b, 0, none⟩)] w fun e w' => e = .returned (.tuple #[]) ∧ SI w' b N last (turnF N (turnF N f 3 0) 2 1) ∧ Fr (· = b) w w' := by
  go_enter Try.func11, Try.ntmps11
  go_wp2_with fail
  refine (all_any w b N last f h hN0 hN 3 0 (by omega) (by omega)).mono ?_
  rintro e w1 ⟨rfl, h1, f1⟩
  go_wp2_with fail
  refine (all_any w1 b N last _ h1 hN0 hN 2 1 (by omega) (by omega)).mono ?_
  rintro e w2 ⟨rfl, h2, f2⟩
  go_wp2
  go_end0
  exact ⟨rfl, h2, f1.trans f2⟩
theorem back_any (w : World) (b N : Nat) (last : Int) (f : Nat → Nat) (h : SI w b N last f) (hN0 : 2 ≤ N) (hN : N ≤ 8192) :
    Calls Try.prog 12 #[.pointer (some ⟨b, 0, none⟩)] w fun e w' => e = .returned (.tuple #[]) ∧ SI w' b N last (turnF N (turnF N f 3 1) 2 0) ∧ Fr (· = b) w w' := by
  go_enter Try.func12, Try.ntmps12
  go_wp2_with fail
  refine (all_any w b N last f h hN0 hN 3 1 (by omega) (by omega)).mono ?_
  rintro e w1 ⟨rfl, h1, f1⟩
  go_wp2_with fail
  refine (all_any w1 b N last _ h1 hN0 hN 2 0 (by omega) (by omega)).mono ?_
  rintro e w2 ⟨rfl, h2, f2⟩
  go_wp2
  go_end0
  exact ⟨rfl, h2, f1.trans f2⟩
set_option maxRecDepth 65000 in
set_option maxHeartbeats 4000000 in
theorem mark_any (w : World) (b N : Nat) (last : Int) (f : Nat → Nat) (h : SI w b N last f) (hN : N ≤ 8192) (n : Int) :
    Calls Try.prog 10 #[.pointer (some ⟨b, 0, none⟩), .int .i64 n] w fun e w' => e = .returned (.int .i64 (markE N f n)) ∧ SI w' b N last (markF N f n) ∧ Fr (· = b) w w' := by
  have HA := Lib.hid (ask_any w b N last f h n)
  have HS := Lib.hid h
  clear h
  go_enter Try.func10, Try.ntmps10
  go_wp2_with fail
  refine HA.out.mono ?_
  rintro e w1 ⟨rfl, hb⟩
  have HS1 := Lib.hid (HS.out.next hb)
  have HF1 : Hid (Fr (· = b) w w1) := Lib.hid (Fr.of_below hb)
  clear hb
  by_cases h1 : n < 2 ∨ (N : Int) ≤ n
  · have e1 : askE N n = 1 := by unfold askE; rw [if_pos h1]
    rw [e1]
    go_wp2
    all_goals refine bodyPost_ret (by simp [results, Try.results10, go_sem]; rfl) rfl ?_
    all_goals unfold markE markF; rw [if_pos h1, if_pos h1]; exact ⟨rfl, HS1.out, HF1.out⟩
  · have e1 : askE N n = 0 := by unfold askE; rw [if_neg h1]
    rw [e1]
    obtain ⟨m, rfl⟩ : ∃ m : Nat, n = m := ⟨n.toNat, by omega⟩
    have hm : m < N := by omega
    obtain ⟨c, ⟨L, hr, hs⟩, hcn⟩ := HS1.out
    have c1 := (hr.cell (2 + m)).trans (hs.is m (by omega))
    have k0 : (0 : Int) ≤ (m : Int) := by omega
    have k1 : (m : Int) < 8192 := by omega
    clear hr hs hcn e1
    have HH := Lib.hid h1
    clear h1
    by_cases h2 : f m = 0
    · rw [h2] at c1
      have HP := Lib.hid (put_si w1 b N last f HS1.out hN m 1 hm (by omega))
      go_wp2_with fail
      refine HP.out.mono ?_
      rintro e w2 ⟨rfl, hs2, hf2⟩
      clear c1
      go_wp2
      all_goals refine bodyPost_ret (by simp [results, Try.results10, go_sem]; rfl) rfl ?_
      all_goals unfold markE markF; rw [if_neg HH.out, if_neg HH.out, if_pos (by simpa using h2), if_pos (by simpa using h2)]; exact ⟨rfl, hs2, HF1.out.trans hf2⟩
    · obtain ⟨x, hx⟩ : ∃ x, x = f m := ⟨_, rfl⟩
      have HX := Lib.hid hx
      rw [← hx] at c1 h2
      have hxb : ((x : Int) != 0) = true := by simp; omega
      clear hx
      go_wp2
      all_goals refine bodyPost_ret (by simp [results, Try.results10, go_sem]; rfl) rfl ?_
      all_goals unfold markE markF; rw [if_neg HH.out, if_neg HH.out, if_neg (by simp [← HX.out]; omega), if_neg (by simp [← HX.out]; omega)]; exact ⟨rfl, HS1.out, HF1.out⟩
set_option maxRecDepth 65000 in
set_option maxHeartbeats 4000000 in
theorem give_any (w : World) (b N : Nat) (last : Int) (f : Nat → Nat) (h : SI w b N last f) (hN : N ≤ 8192) (n : Int) :
    Calls Try.prog 9 #[.pointer (some ⟨b, 0, none⟩), .int .i64 n] w fun e w' => e = .returned (.int .i64 (giveE N f n)) ∧ SI w' b N last (giveF N f n) ∧ Fr (· = b) w w' := by
  have HA := Lib.hid (ask_any w b N last f h n)
  have HS := Lib.hid h
  clear h
  go_enter Try.func9, Try.ntmps9
  go_wp2_with fail
  refine HA.out.mono ?_
  rintro e w1 ⟨rfl, hb⟩
  have HS1 := Lib.hid (HS.out.next hb)
  have HF1 : Hid (Fr (· = b) w w1) := Lib.hid (Fr.of_below hb)
  clear hb
  by_cases h1 : n < 2 ∨ (N : Int) ≤ n
  · have e1 : askE N n = 1 := by unfold askE; rw [if_pos h1]
    rw [e1]
    go_wp2
    all_goals refine bodyPost_ret (by simp [results, Try.results9, go_sem]; rfl) rfl ?_
    all_goals unfold giveE giveF; rw [if_pos h1, if_pos h1]; exact ⟨rfl, HS1.out, HF1.out⟩
  · have e1 : askE N n = 0 := by unfold askE; rw [if_neg h1]
    rw [e1]
    obtain ⟨m, rfl⟩ : ∃ m : Nat, n = m := ⟨n.toNat, by omega⟩
    have hm : m < N := by omega
    obtain ⟨c, ⟨L, hr, hs⟩, hcn⟩ := HS1.out
    have c1 := (hr.cell (2 + m)).trans (hs.is m (by omega))
    have k0 : (0 : Int) ≤ (m : Int) := by omega
    have k1 : (m : Int) < 8192 := by omega
    clear hr hs hcn e1
    have HH := Lib.hid h1
    clear h1
    by_cases h2 : f m = 2
    · rw [h2] at c1
      have HP := Lib.hid (put_si w1 b N last f HS1.out hN m 0 hm (by omega))
      go_wp2_with fail
      refine HP.out.mono ?_
      rintro e w2 ⟨rfl, hs2, hf2⟩
      clear c1
      go_wp2
      all_goals refine bodyPost_ret (by simp [results, Try.results9, go_sem]; rfl) rfl ?_
      all_goals unfold giveE giveF; rw [if_neg HH.out, if_neg HH.out, if_pos (by simp [h2]), if_pos (by simpa using h2)]; exact ⟨rfl, hs2, HF1.out.trans hf2⟩
    · by_cases h3 : f m = 1
      · rw [h3] at c1
        have HP := Lib.hid (put_si w1 b N last f HS1.out hN m 3 hm (by omega))
        go_wp2_with fail
        refine HP.out.mono ?_
        rintro e w2 ⟨rfl, hs2, hf2⟩
        clear c1
        go_wp2
        all_goals refine bodyPost_ret (by simp [results, Try.results9, go_sem]; rfl) rfl ?_
        all_goals unfold giveE giveF; rw [if_neg HH.out, if_neg HH.out, if_pos (by simp [h3]), if_neg (by simp [h3]), if_pos (by simpa using h3)]; exact ⟨rfl, hs2, HF1.out.trans hf2⟩
      · obtain ⟨x, hx⟩ : ∃ x, x = f m := ⟨_, rfl⟩
        have HX := Lib.hid hx
        rw [← hx] at c1 h2 h3
        have hxb : ((x : Int) == 2) = false := by simp; omega
        have hxc : ((x : Int) == 1) = false := by simp; omega
        clear hx
        go_wp2
        all_goals refine bodyPost_ret (by simp [results, Try.results9, go_sem]; rfl) rfl ?_
        all_goals unfold giveE giveF; rw [if_neg HH.out, if_neg HH.out, if_neg (by simp [← HX.out]; omega), if_neg (by simp [← HX.out]; omega), if_neg (by simp [← HX.out]; omega)]; exact ⟨rfl, HS1.out, HF1.out⟩
end Go.Proofs.Ytbkbfkaklhojgaa
