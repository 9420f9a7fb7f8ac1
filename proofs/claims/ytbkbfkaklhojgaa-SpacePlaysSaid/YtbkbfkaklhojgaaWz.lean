/- SpacePlays: the walk. -/
import Derived.Test.YtbkbfkaklhojgaaWu
import Derived.Test.YtbkbfkaklhojgaaWl
namespace Go.Proofs.Ytbkbfkaklhojgaa
open Go.RowKit Go.Shelf
def PlI (w : World) (b N q g n : Nat) (i : Value) (W : World) : Prop := ∃ k : Nat, k ≤ n ∧ i = .int .i64 k ∧ ∃ last r f, Bo W b N q g last r f ∧ Below w.heap.size w W
def PnI (w : World) (b N q g last r : Nat) (f : Nat → Nat) (i : Value) (W : World) : Prop := ∃ m : Int, -1 ≤ m ∧ m ≤ N + 1 ∧ i = .int .i64 m ∧ Bo W b N q g last r f ∧ Below w.heap.size w W
theorem awake_end (w w1 : World) (hb : Below w.heap.size w w1) : Calls Try.prog 6 #[] w1 fun e w' => e = .returned (.bool true) ∧ Below w.heap.size w w' :=
  (awake_any w1).mono fun _ _ ⟨h1, h2⟩ => ⟨h1, bt hb h2⟩
theorem new_bo (w w1 w2 : World) (N : Nat) (h0 : 64 ≤ N) (h1 : N ≤ 8192) (hs : SI w1 w.heap.size N 0 newF) (_hb : Below w.heap.size w w1) (hx : XI w2 (w1.heap.size + 1) w1.heap.size N 1 newF) (hb2 : Below w1.heap.size w1 w2) :
    Bo w2 w.heap.size N (w1.heap.size + 1) w1.heap.size 0 1 newF := by
  have hl := hs.lt
  refine ⟨hs.next hb2, hx, h0, h1, by omega, by omega, by omega, by omega, .inr ⟨rfl, rfl⟩, rfl, rfl, fun i => ?_⟩
  unfold newF upd
  split
  · omega
  · split
    · omega
    · show (0 : Nat) < 4; omega
set_option maxRecDepth 20000 in
set_option maxHeartbeats 4000000 in
theorem plays_law (w : World) (x : Int) (_hx : -9223372036854775808 ≤ x ∧ x ≤ 9223372036854775807) (a : Option Addr) (n cap : Nat) (l : List So) (hl : OpsAt w a n l) (hn : n ≤ maxLen) :
    Calls Try.prog 4 #[.int .i64 x, .slice a n cap] w fun e w' => e = .returned (.bool true) ∧ Below w.heap.size w w' := by
  have HL := Lib.hid hl
  clear hl
  have hn' : n ≤ 9223372036854775807 := by unfold maxLen at hn; omega
  clear hn
  by_cases h100 : (100 : Int) < (n : Int)
  · have g1 : decide ((n : Int) > 100) = true := by simpa using h100
    go_enter Try.func4, Try.ntmps4
    go_wp2_with fail
    refine (awake_end w _ (Below.refl _ _)).mono ?_
    rintro e w1 ⟨rfl, hb⟩
    go_wp2_with fail
    all_goals refine bodyPost_ret (by simp [results, Try.results4, go_sem]; rfl) rfl ?_
    all_goals exact ⟨rfl, hb⟩
  · have g1 : decide ((n : Int) > 100) = false := by simpa using h100
    have g2 : decide ((100 : Int) < (n : Int)) = false := by simpa using h100
    have hn1 : n ≤ 100 := by omega
    clear h100
    by_cases hm : 1000 < x ∧ x < 8190
    · obtain ⟨m1, m2⟩ := hm
      have g3 : decide (x > 1000) = true := by simpa using m1
      have g4 : decide (x < 8190) = true := by simpa using m2
      go_enter Try.func4, Try.ntmps4
      go_wp2_with fail
      refine (awake_end w _ (Below.refl _ _)).mono ?_
      rintro e w1 ⟨rfl, hb⟩
      go_wp2_with fail
      all_goals refine bodyPost_ret (by simp [results, Try.results4, go_sem]; rfl) rfl ?_
      all_goals exact ⟨rfl, hb⟩
    · have hsp : (decide (x > 1000) = false ∧ decide (1000 < x) = false) ∨ (decide (x > 1000) = true ∧ decide (1000 < x) = true ∧ decide (x < 8190) = false) := by
        by_cases h1 : 1000 < x
        · exact .inr ⟨by simpa using h1, by simpa using h1, by simp; omega⟩
        · exact .inl ⟨by simpa using h1, by simpa using h1⟩
      clear hm
      by_cases hr : x < 64 ∨ 8192 < x
      · have HN := Lib.hid (new_not w x hr)
        have HR := Lib.hid (rnew_not w x hr)
        clear hr
        rcases hsp with ⟨g3, g4⟩ | ⟨g3, g4, g5⟩
        all_goals
          go_enter Try.func4, Try.ntmps4
          go_wp2_with fail
          refine HN.out.mono ?_
          rintro e w' ⟨rfl, hw⟩
          rw [hw]
          clear hw w'
          go_wp2_with fail
          refine HR.out.mono ?_
          rintro e w' ⟨rfl, hw⟩
          rw [hw]
          clear hw w'
          go_wp2_with fail
          refine (awake_end w _ (Below.refl _ _)).mono ?_
          rintro e w1 ⟨rfl, hb⟩
          go_wp2_with fail
          all_goals refine bodyPost_ret (by simp [results, Try.results4, go_sem]; rfl) rfl ?_
          all_goals exact ⟨rfl, hb⟩
      · obtain ⟨N, rfl⟩ : ∃ N : Nat, x = N := ⟨x.toNat, by omega⟩
        have hN0 : 64 ≤ N := by omega
        have hN1 : N ≤ 8192 := by omega
        clear hr _hx
        rcases hsp with ⟨g3, g4⟩ | ⟨g3, g4, g5⟩
        all_goals
          go_enter Try.func4, Try.ntmps4
          go_wp2_with fail
          refine (new_any w N hN0 hN1).mono ?_
          rintro e w1 ⟨rfl, hs, hb⟩
          have HS := Lib.hid hs
          have HB1 := Lib.hid hb
          clear hs hb
          obtain ⟨b, hbb⟩ : ∃ b, b = w.heap.size := ⟨_, rfl⟩
          rw [← hbb]
          have HBB := Lib.hid hbb
          clear hbb
          go_wp2_with fail
          refine (rnew_any w1 N hN0 hN1).mono ?_
          rintro e w2 ⟨rfl, hx2, hb2⟩
          have HO : Hid (Bo w2 b N (w1.heap.size + 1) w1.heap.size 0 1 newF) := Lib.hid (by rw [HBB.out]; exact new_bo w w1 w2 N hN0 hN1 HS.out HB1.out hx2 hb2)
          have HB2 := Lib.hid (bt HB1.out hb2)
          have HLB : Hid (w.heap.size ≤ b ∧ w.heap.size ≤ w1.heap.size) := Lib.hid ⟨by rw [HBB.out]; exact Nat.le_refl _, HB1.out.size⟩
          clear hx2 hb2 HS HB1 HBB
          obtain ⟨g, hg⟩ : ∃ g, g = w1.heap.size := ⟨_, rfl⟩
          rw [← hg] at HO HLB ⊢
          clear hg
          obtain ⟨q, hq⟩ : ∃ q, q = g + 1 := ⟨_, rfl⟩
          rw [← hq] at HO ⊢
          have HLQ : Hid (w.heap.size ≤ q) := Lib.hid (by have := HLB.out; omega)
          clear hq
          go_wp2_with fail
          go_loopw [9] (fun i wr => PlI w b N q g n i wr) (fun i _ => n - (intOf i).toNat)
          case atStart => exact ⟨0, by omega, rfl, _, _, _, HO.out, HB2.out⟩
          case round =>
            obtain ⟨k, hk, rfl, last, r, f, ho, hbr⟩ := hrel
            clear HO HB2
            have HO := Lib.hid ho
            have HB2 := Lib.hid hbr
            clear ho hbr
            by_cases hlt : k < n
            · have hlt' : (k : Int) < (n : Int) := by omega
              obtain ⟨b1, o1, rfl, l1, _⟩ := HL.out.get k hlt
              obtain ⟨st, hst⟩ : ∃ st, l[k]? = some st := ⟨l[k]'(by have := HL.out.1; omega), List.getElem?_eq_getElem _⟩
              have HC : Hid (∀ W, Below w.heap.size w W → W.cell? ⟨b1, o1 + k * 2, none⟩ = some (.int .u8 st.kind) ∧ W.cell? ⟨b1, o1 + k * 2 + 1, none⟩ = some (.int .i64 st.n)) := Lib.hid (fun W hW => by
                obtain ⟨b2, o2, e, _, q2⟩ := (HL.out.next hW).get k hlt
                cases e
                exact q2 k st hst)
              obtain ⟨z, hz⟩ : ∃ z : Int, z = st.n := ⟨_, rfl⟩
              obtain ⟨kd, hkd⟩ : ∃ z : Nat, z = st.kind := ⟨_, rfl⟩
              rw [← hz, ← hkd] at HC
              clear hst hz hkd
              have k0 : (0 : Int) ≤ (k : Int) := by omega
              go_wp2_with fail
              refine (copy_any wr b N last f HO.out.si).mono ?_
              rintro e w3 ⟨rfl, hs, hb⟩
              have HCS := Lib.hid hs
              have HO3 := Lib.hid (HO.out.next hb)
              have HB3 := Lib.hid (bt HB2.out hb)
              have HLC : Hid (wr.heap.size ≤ w3.heap.size ∧ w.heap.size ≤ wr.heap.size ∧ b < wr.heap.size ∧ q < wr.heap.size ∧ g < wr.heap.size) := Lib.hid ⟨hb.size, HB2.out.size, HO.out.si.lt, HO.out.xi.ltq, HO.out.xi.ltg⟩
              clear hs hb
              obtain ⟨cb, hcb⟩ : ∃ cb, cb = wr.heap.size := ⟨_, rfl⟩
              rw [← hcb] at HCS HLC ⊢
              clear hcb
              go_wp2_with fail
              refine (rcopy_any w3 q g N r f HO3.out.xi (by omega) hN1).mono ?_
              rintro e w4 ⟨q', g', rfl, hxc, lq, lg, hb⟩
              have HD : Hid (Bo w4 cb N q' g' last r f) := Lib.hid (by
                have := HCS.out.lt
                have := HO.out
                exact ⟨HCS.out.next hb, hxc, hN0, hN1, by omega, by omega, this.ll, this.lr, this.la, this.f0, this.f1, this.f4⟩)
              have HO4 := Lib.hid (HO3.out.next hb)
              have HB4 := Lib.hid (bt HB3.out hb)
              have HN : Hid (cb ≠ b ∧ cb ≠ q ∧ cb ≠ g ∧ q' ≠ b ∧ q' ≠ q ∧ q' ≠ g ∧ g' ≠ b ∧ g' ≠ q ∧ g' ≠ g ∧ w.heap.size ≤ cb ∧ w.heap.size ≤ q' ∧ w.heap.size ≤ g') := Lib.hid (by have := HLC.out; omega)
              clear hxc lq lg hb HCS HO3 HB3 HLC HO HB2
              obtain ⟨d1, d2⟩ := HC.out w4 HB4.out
              go_wp2_with fail
              refine (do_any w4 b N q g last r f HO4.out kd z).mono ?_
              rintro e w5 ⟨rfl, last', r', f', ho, hf⟩
              have HO5 := Lib.hid ho
              have HD5 := Lib.hid (HD.out.fr hf (by have := HN.out; omega) (by have := HN.out; omega) (by have := HN.out; omega))
              have HB5 := Lib.hid (Below.fr HB4.out hf HB4.out.size (fun _ e => by have := HLB.out; have := HLQ.out; omega))
              clear ho hf HD HO4 HB4 d1 d2
              obtain ⟨d1, d2⟩ := HC.out w5 HB5.out
              go_wp2_with fail
              refine (like_any w5 b N q g last' r' f' HO5.out z).mono ?_
              rintro e w6 ⟨rfl, hb⟩
              have HO6 := Lib.hid (HO5.out.next hb)
              have HD6 := Lib.hid (HD5.out.next hb)
              have HB6 := Lib.hid (bt HB5.out hb)
              clear hb HO5 HD5 HB5 d1 d2
              obtain ⟨d1, d2⟩ := HC.out w6 HB6.out
              go_wp2_with fail
              refine (like_any w6 cb N q' g' last r f HD6.out z).mono ?_
              rintro e w7 ⟨rfl, hb⟩
              have HO7 := Lib.hid (HO6.out.next hb)
              have HD7 := Lib.hid (HD6.out.next hb)
              have HB7 := Lib.hid (bt HB6.out hb)
              clear hb HO6 HD6 HB6 d1 d2
              obtain ⟨d1, d2⟩ := HC.out w7 HB7.out
              go_wp2_with fail
              refine (do_any w7 cb N q' g' last r f HD7.out kd z).mono ?_
              rintro e w8 ⟨rfl, last2, r2, f2, ho, hf⟩
              have HO8 := Lib.hid (HO7.out.fr hf (by have := HN.out; omega) (by have := HN.out; omega) (by have := HN.out; omega))
              have HB8 := Lib.hid (Below.fr HB7.out hf HB7.out.size (fun _ e => by have := HN.out; omega))
              have HD8 := Lib.hid ho
              clear ho hf HD7 HO7 HB7 d1 d2
              obtain ⟨d1, d2⟩ := HC.out w8 HB8.out
              go_wp2_with fail
              refine (like_any w8 cb N q' g' last2 r2 f2 HD8.out z).mono ?_
              rintro e w9 ⟨rfl, hb⟩
              have HO9 := Lib.hid (HO8.out.next hb)
              have HB9 := Lib.hid (bt HB8.out hb)
              clear hb HO8 HD8 HB8 d1 d2
              go_wp2_with fail
              all_goals go_roundw
              all_goals first
                | (show _ < _; simp [intOf]; omega)
                | exact ⟨k + 1, by omega, by go_num, _, _, _, HO9.out, HB9.out⟩
            · have hge : decide ((k : Int) < (n : Int)) = false := by simp; omega
              go_wp2_with fail
              go_loopw [12] (fun i wy => PnI w b N q g last r f i wy) (fun i _ => (N + 2 - intOf i).toNat)
              case atStart => exact ⟨-1, by omega, by omega, rfl, HO.out, HB2.out⟩
              case round =>
                obtain ⟨m, hm0, hm1, rfl, ho, hbr⟩ := hrel
                clear HO HB2
                have HO := Lib.hid ho
                have HB2 := Lib.hid hbr
                clear ho hbr
                obtain ⟨cp, c0, hc1, hc2⟩ := HO.out.xi.c0
                by_cases hle : m ≤ (N : Int)
                · have HT := Lib.hid (taken_any wr b N last f HO.out.si hN1 m)
                  obtain ⟨tb, htb⟩ : ∃ t, t = tkB N f m := ⟨_, rfl⟩
                  rw [← htb] at HT
                  have HTB := Lib.hid htb
                  clear htb
                  go_wp2_with fail
                  refine HT.out.mono ?_
                  rintro e w3 ⟨rfl, hb⟩
                  have HI := Lib.hid (is_any w3 q g N r f (HO.out.next hb).xi HO.out.f4 m)
                  rw [← HTB.out] at HI
                  have HO3 := Lib.hid (HO.out.next hb)
                  have HB3 := Lib.hid (bt HB2.out hb)
                  clear hb HT HTB HO HB2 c0
                  go_wp2_with fail
                  refine HI.out.mono ?_
                  rintro e w' ⟨rfl, hw⟩
                  rw [hw]
                  clear hw w'
                  have hn : (tb != tb) = false := by simp
                  clear HI
                  go_wp2_with fail
                  all_goals go_roundw
                  all_goals first
                    | (show _ < _; simp [intOf]; omega)
                    | exact ⟨m + 1, by omega, by omega, rfl, HO3.out, HB3.out⟩
                · have hge : decide (m ≤ (N : Int)) = false := by simpa using hle
                  go_wp2_with fail
                  refine (awake_end w wr HB2.out).mono ?_
                  rintro e w3 ⟨rfl, hb⟩
                  go_wp2_with fail
                  all_goals refine bodyPost_ret (by simp [results, Try.results4, go_sem]; rfl) rfl ?_
                  all_goals exact ⟨rfl, hb⟩
end Go.Proofs.Ytbkbfkaklhojgaa
