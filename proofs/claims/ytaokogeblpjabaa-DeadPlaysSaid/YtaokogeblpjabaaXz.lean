/- DeadPlays: the walk. -/
import Derived.Test.YtaokogeblpjabaaXj
import Derived.Test.YtaokogeblpjabaaWj
namespace Go.Proofs.Ytaokogeblpjabaa
open Go.RowKit
def PlI (w : World) (t b q n : Nat) (i : Value) (W : World) : Prop := ∃ k : Nat, k ≤ n ∧ i = .int .i64 k ∧ ∃ g f, Tw W t b q g f ∧ w.heap.size ≤ g ∧ Below w.heap.size w W
theorem awake_end (w w1 : World) (hb : Below w.heap.size w w1) : Calls Try.prog 6 #[] w1 fun e w' => e = .returned (.bool true) ∧ Below w.heap.size w w' :=
  (awake_any w1).mono fun _ _ ⟨h1, h2⟩ => ⟨h1, bt hb h2⟩
set_option maxRecDepth 20000 in
set_option maxHeartbeats 4000000 in
theorem plays_law (w : World) (a : Option Addr) (n cap : Nat) (l : List So) (hl : OpsAt w a n l) (hn : n ≤ maxLen) :
    Calls Try.prog 4 #[.slice a n cap] w fun e w' => e = .returned (.bool true) ∧ Below w.heap.size w w' := by
  have HL := Lib.hid hl
  clear hl
  have hn' : n ≤ 9223372036854775807 := by unfold maxLen at hn; omega
  clear hn
  by_cases h100 : (80 : Int) < (n : Int)
  · have g1 : decide ((n : Int) > 80) = true := by simpa using h100
    go_enter Try.func4, Try.ntmps4
    go_wp2_with fail
    refine (awake_end w _ (Below.refl _ _)).mono ?_
    rintro e w1 ⟨rfl, hb⟩
    go_wp2_with fail
    all_goals refine bodyPost_ret (by simp [results, Try.results4, go_sem]; rfl) rfl ?_
    all_goals exact ⟨rfl, hb⟩
  · have g1 : decide ((n : Int) > 80) = false := by simpa using h100
    have g2 : decide ((80 : Int) < (n : Int)) = false := by simpa using h100
    clear h100
    go_enter Try.func4, Try.ntmps4
    go_wp2_with fail
    refine (new_any w).mono ?_
    rintro e w1 ⟨rfl, hd, hb⟩
    have hal : Below w1.heap.size w1 (w1.alloc (.cells #[.slice none 0 0] 43)) := (Below.refl _ _).alloc (Nat.le_refl _) _
    have HO : Hid (Tw (w1.alloc (.cells #[.slice none 0 0] 43)) (w.heap.size + 1) w.heap.size w1.heap.size w1.heap.size (fun _ => 0)) := Lib.hid (by
      have hl := hd.lt
      refine ⟨hd.next hal, ⟨[], ⟨.slice none 0 0, RowAt.new w1 43 [.slice none 0 0], World.ownsRow_nil _ _ _ _, (fun k hk => by cases hk), by simp⟩, rel_nil⟩, by omega, by omega, by omega, by omega⟩)
    have HB := Lib.hid (bt hb hal)
    have HLB : Hid (w.heap.size ≤ w.heap.size + 1 ∧ w.heap.size ≤ w.heap.size ∧ w.heap.size ≤ w1.heap.size) := Lib.hid ⟨by omega, Nat.le_refl _, hb.size⟩
    obtain ⟨t, ht⟩ : ∃ t, t = w.heap.size + 1 := ⟨_, rfl⟩
    obtain ⟨b, hbb⟩ : ∃ b, b = w.heap.size := ⟨_, rfl⟩
    obtain ⟨q, hq⟩ : ∃ q, q = w1.heap.size := ⟨_, rfl⟩
    have HLT : Hid (w.heap.size ≤ t ∧ w.heap.size ≤ b ∧ w.heap.size ≤ q) := Lib.hid (by have := HLB.out; omega)
    rw [← ht, ← hbb, ← hq] at HO
    rw [← ht]
    clear ht hbb hd hb hal HLB
    go_wp2_with fail
    rw [← hq]
    clear hq
    generalize w1.alloc (.cells #[.slice none 0 0] 43) = w2 at *
    go_loopw [5] (fun i wr => PlI w t b q n i wr) (fun i _ => n - (intOf i).toNat)
    case atStart => exact ⟨0, by omega, rfl, q, _, HO.out, HLT.out.2.2, HB.out⟩
    case round =>
      obtain ⟨k, hk, rfl, g, f, ho, hg, hbr⟩ := hrel
      clear HO HB
      have HO := Lib.hid ho
      have HB2 := Lib.hid hbr
      have HG := Lib.hid hg
      clear ho hbr hg
      by_cases hlt : k < n
      · have hlt' : (k : Int) < (n : Int) := by omega
        obtain ⟨b1, o1, rfl, l1, _⟩ := HL.out.get k hlt
        obtain ⟨st, hst⟩ : ∃ st, l[k]? = some st := ⟨l[k]'(by have := HL.out.1; omega), List.getElem?_eq_getElem _⟩
        have HC : Hid (∀ W, Below w.heap.size w W → SoAt W b1 (o1 + k * 3) st) := Lib.hid (fun W hW => by
          obtain ⟨b2, o2, e, _, q2⟩ := (HL.out.next hW).get k hlt
          cases e
          exact q2 k st hst)
        unfold SoAt at HC
        obtain ⟨z, hz⟩ : ∃ z : Int, z = st.n := ⟨_, rfl⟩
        obtain ⟨y, hy⟩ : ∃ y : Int, y = st.m := ⟨_, rfl⟩
        obtain ⟨kd, hkd⟩ : ∃ z : Nat, z = st.kind := ⟨_, rfl⟩
        rw [← hz, ← hy, ← hkd] at HC
        clear hst hz hy hkd
        have k0 : (0 : Int) ≤ (k : Int) := by omega
        go_wp2_with fail
        refine (copy_any wr t b f HO.out.dt).mono ?_
        rintro e w3 ⟨t', b', rfl, hd, lt', lb', hb⟩
        have HCS := Lib.hid hd
        have HO3 := Lib.hid (HO.out.next hb)
        have HB3 := Lib.hid (bt HB2.out hb)
        have HLC : Hid (wr.heap.size ≤ t' ∧ wr.heap.size ≤ b' ∧ t' < w3.heap.size ∧ b' < w3.heap.size ∧ t < wr.heap.size ∧ b < wr.heap.size ∧ q < wr.heap.size ∧ g < wr.heap.size ∧ w.heap.size ≤ wr.heap.size) := Lib.hid (by
          have := HO.out.lt
          have := hd.lt
          have := HB2.out.size
          omega)
        clear hd hb lt' lb'
        go_wp2_with fail
        refine (rcopy_any w3 q g f HO3.out.rx).mono ?_
        rintro e w4 ⟨q', g', rfl, hxc, lq, lg, hb⟩
        have HD : Hid (Tw w4 t' b' q' g' f) := Lib.hid (by
          have := HLC.out
          exact ⟨HCS.out.next hb, hxc, by omega, by omega, by omega, by omega⟩)
        have HO4 := Lib.hid (HO3.out.next hb)
        have HB4 := Lib.hid (bt HB3.out hb)
        have HN : Hid ((w3.heap.size ≤ q' ∧ w3.heap.size ≤ g' ∧ q' < w4.heap.size ∧ g' < w4.heap.size ∧ wr.heap.size ≤ w3.heap.size) ∧ wr.heap.size ≤ t' ∧ wr.heap.size ≤ b' ∧ t' < w4.heap.size ∧ b' < w4.heap.size ∧ t < wr.heap.size ∧ b < wr.heap.size ∧ q < wr.heap.size ∧ g < wr.heap.size ∧ w.heap.size ≤ wr.heap.size) := Lib.hid (by
          have := HLC.out
          have := hxc.lt
          have := hxc.ltg
          have := hb.size
          omega)
        clear hxc lq lg hb HCS HO3 HB3 HLC HO HB2
        obtain ⟨d1, d2, d3⟩ := HC.out w4 HB4.out
        go_wp2_with fail
        refine (do_any w4 t b q g f HO4.out kd z y).mono ?_
        rintro e w5 ⟨rfl, f2, g2, ho, hf, hg2⟩
        have HO5 := Lib.hid ho
        have HD5 := Lib.hid (HD.out.fr hf (fun e => by have := HN.out; rcases e with e | e | e <;> omega) (fun e => by have := HN.out; rcases e with e | e | e <;> omega) (fun e => by have := HN.out; rcases e with e | e | e <;> omega) (fun e => by have := HN.out; rcases e with e | e | e <;> omega))
        have HB5 := Lib.hid (Below.trans HB4.out (Fr.below hf HB4.out.size (fun _ e => by have := HLT.out; have := HG.out; rcases e with e | e | e <;> omega)))
        have HG2 : Hid (g2 = g ∨ w4.heap.size ≤ g2) := Lib.hid hg2
        have HG5 : Hid (w.heap.size ≤ g2) := Lib.hid (by have := HG.out; have := HB4.out.size; rcases hg2 with e | e <;> omega)
        clear ho hf hg2 HD HO4 HB4 d1 d2 d3
        obtain ⟨d1, d2, d3⟩ := HC.out w5 HB5.out
        go_wp2_with fail
        refine (lk_any w5 t b q g2 f2 HO5.out kd z y).mono ?_
        rintro e w6 ⟨rfl, hb⟩
        have HO6 := Lib.hid (HO5.out.next hb)
        have HD6 := Lib.hid (HD5.out.next hb)
        have HB6 := Lib.hid (bt HB5.out hb)
        clear hb HO5 HD5 HB5 d1 d2 d3
        obtain ⟨d1, d2, d3⟩ := HC.out w6 HB6.out
        go_wp2_with fail
        refine (lk_any w6 t' b' q' g' f HD6.out kd z y).mono ?_
        rintro e w7 ⟨rfl, hb⟩
        have HO7 := Lib.hid (HO6.out.next hb)
        have HD7 := Lib.hid (HD6.out.next hb)
        have HB7 := Lib.hid (bt HB6.out hb)
        clear hb HO6 HD6 HB6 d1 d2 d3
        obtain ⟨d1, d2, d3⟩ := HC.out w7 HB7.out
        go_wp2_with fail
        refine (do_any w7 t' b' q' g' f HD7.out kd z y).mono ?_
        rintro e w8 ⟨rfl, f3, g3, ho, hf, hg3⟩
        have HO8 := Lib.hid (HO7.out.fr hf (fun e => by have := HN.out; rcases e with e | e | e <;> omega) (fun e => by have := HN.out; rcases e with e | e | e <;> omega) (fun e => by have := HN.out; rcases e with e | e | e <;> omega) (fun e => by have := HN.out; have := HG2.out; rcases e with e | e | e <;> omega))
        have HB8 := Lib.hid (Below.trans HB7.out (Fr.below hf HB7.out.size (fun _ e => by have := HN.out; rcases e with e | e | e <;> omega)))
        have HD8 := Lib.hid ho
        clear ho hf hg3 HD7 HO7 HB7 d1 d2 d3
        obtain ⟨d1, d2, d3⟩ := HC.out w8 HB8.out
        go_wp2_with fail
        refine (lk_any w8 t' b' q' g3 f3 HD8.out kd z y).mono ?_
        rintro e w9 ⟨rfl, hb⟩
        have HO9 := Lib.hid (HO8.out.next hb)
        have HB9 := Lib.hid (bt HB8.out hb)
        clear hb HO8 HD8 HB8 d1 d2 d3
        go_wp2_with fail
        all_goals go_roundw
        all_goals first
          | (show _ < _; simp [intOf]; omega)
          | exact ⟨k + 1, by omega, by go_num, g2, _, HO9.out, HG5.out, HB9.out⟩
      · have hge : decide ((k : Int) < (n : Int)) = false := by simp; omega
        go_wp2_with fail
        refine (awake_end w wr HB2.out).mono ?_
        rintro e w3 ⟨rfl, hb⟩
        go_wp2_with fail
        all_goals refine bodyPost_ret (by simp [results, Try.results4, go_sem]; rfl) rfl ?_
        all_goals exact ⟨rfl, hb⟩
end Go.Proofs.Ytaokogeblpjabaa
