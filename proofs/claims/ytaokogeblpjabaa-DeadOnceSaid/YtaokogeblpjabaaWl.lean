/- DeadOnce: the walk. -/
import Derived.Test.YtaokogeblpjabaaWk
import Derived.Test.YtaokogeblpjabaaWj
import Derived.Deep.DeepCutAuto
import Derived.Deep.CutBlock
import Derived.Deep.RegionHeld3
namespace Go.Proofs.Ytaokogeblpjabaa
open Go.RowKit
def KeptAt (W : World) (kb B : Nat) (K : Nat → List Int) : Prop := ∃ vs : List Value, vs.length = 7 ∧ RowAt W kb 27 vs ∧ ∀ n, n < 7 → ∃ v, vs[n]? = some v ∧ OwnI B (K n) v W ∧ (K n).length ≤ 8192
theorem KeptAt.fr {M : Nat → Prop} {W W' : World} {kb B : Nat} {K : Nat → List Int} (h : KeptAt W kb B K) (hf : Fr M W W') (h1 : ¬ M kb) (h2 : ∀ k, M k → k < B) : KeptAt W' kb B K := by
  obtain ⟨vs, hl, hr, hv⟩ := h
  refine ⟨vs, hl, hr.fr hf h1, fun n hn => ?_⟩
  obtain ⟨v, e, ho, hl⟩ := hv n hn
  exact ⟨v, e, own_fr ho hf h2, hl⟩
theorem KeptAt.next {W W' : World} {kb B : Nat} {K : Nat → List Int} (h : KeptAt W kb B K) (hb : Below W.heap.size W W') : KeptAt W' kb B K := h.fr (M := fun _ => False) (Fr.of_below hb) (fun x => x) (fun _ x => x.elim)
theorem KeptAt.lt {W : World} {kb B : Nat} {K : Nat → List Int} (h : KeptAt W kb B K) : kb < W.heap.size := by
  obtain ⟨vs, hl, hr, hv⟩ := h
  exact hr.lt
theorem KeptAt.cell {W : World} {kb B : Nat} {K : Nat → List Int} (h : KeptAt W kb B K) (n : Nat) (hn : n < 7) : ∃ v, W.cell? ⟨kb, n, none⟩ = some v ∧ OwnI B (K n) v W ∧ (K n).length ≤ 8192 := by
  obtain ⟨vs, hl, hr, hv⟩ := h
  obtain ⟨v, e, ho⟩ := hv n hn
  exact ⟨v, (hr.cell n).trans e, ho⟩
theorem KeptAt.set {W : World} {kb B : Nat} {K : Nat → List Int} (h : KeptAt W kb B K) (n : Nat) (hn : n < 7) (v : Value) (l : List Int) (ho : OwnI B l v W) (hll : l.length ≤ 8192) (hb : kb < B) : KeptAt (W.setCell ⟨kb, n, none⟩ v) kb B (updK K n l) ∧ Fr (· = kb) W (W.setCell ⟨kb, n, none⟩ v) := by
  have hf : Fr (· = kb) W (W.setCell ⟨kb, n, none⟩ v) := (Fr.refl (· = kb) W).setCell (b := kb) rfl v
  obtain ⟨vs, hl, hr, hv⟩ := h
  refine ⟨⟨vs.set n v, by simpa using hl, hr.set n v, fun j hj => ?_⟩, hf⟩
  by_cases e : j = n
  · subst e
    exact ⟨v, by simp [hl, hn], by unfold updK; rw [if_pos rfl]; exact own_fr ho hf (fun k x => by omega), by unfold updK; rw [if_pos rfl]; exact hll⟩
  · obtain ⟨u, e1, ho1, hl1⟩ := hv j hj
    refine ⟨u, by rw [List.getElem?_set_ne (fun h => e h.symm)]; exact e1, ?_⟩
    unfold updK
    rw [if_neg e]
    exact ⟨own_fr ho1 hf (fun k x => by omega), hl1⟩
theorem KeptAt.new (W : World) : KeptAt (W.alloc (.cells #[.slice none 0 0, .slice none 0 0, .slice none 0 0, .slice none 0 0, .slice none 0 0, .slice none 0 0, .slice none 0 0] 27)) W.heap.size (W.heap.size + 1) (fun _ => []) := by
  refine ⟨_, rfl, RowAt.new W 27 [.slice none 0 0, .slice none 0 0, .slice none 0 0, .slice none 0 0, .slice none 0 0, .slice none 0 0, .slice none 0 0], fun n hn => ⟨.slice none 0 0, ?_, OwnI.nil _ _, by simp⟩⟩
  match n, hn with
  | 0, _ | 1, _ | 2, _ | 3, _ | 4, _ | 5, _ | 6, _ => rfl
/-- A slice that reads as G. -/
def GA (W : World) (G : List Int) (v : Value) : Prop := ∃ A c, v = .slice A G.length c ∧ SliceAt W A G.length (G.map I64)
theorem GA.next {W W' : World} {G : List Int} {v : Value} (h : GA W G v) (hb : Below W.heap.size W W') : GA W' G v := by
  obtain ⟨A, c, e, hs⟩ := h
  exact ⟨A, c, e, hs.next hb⟩
theorem GA.nil (W : World) : GA W [] (.slice none 0 0) := ⟨none, 0, rfl, SliceAt.nil _ _⟩
theorem OwnI.ga {B : Nat} {l : List Int} {v : Value} {w : World} (h : OwnI B l v w) : GA w l v := h.slice
theorem GA.row {w : World} {b : Nat} {x : Int} (h : RowAt w b 3 [.int .i64 x]) : GA w [x] (.slice (some ⟨b, 0, none⟩) 1 1) := row_as h
structure Cs3 (w : World) (t b kb B0 x B4 : Nat) : Prop where
  wb : w.heap.size ≤ b
  wk : w.heap.size ≤ kb
  tk : t < kb
  bk : b < kb
  kB : kb < B0
  kx : kb < x
  x4 : x < B4
  B04 : B0 ≤ B4
structure Bun (w W : World) (t b kb B0 x B4 kd : Nat) (z y : Int) (f f' : Int → Nat) (K : Nat → List Int) (v7 : Value) : Prop where
  dt : DT W t b f'
  kept : KeptAt W kb B0 K
  was : OwnI B4 (allL f) v7 W
  row : RowAt W x 29 [.int .u8 kd, .int .i64 z, .int .i64 y]
  bel : Below w.heap.size w W
  big : B4 ≤ W.heap.size
section
variable {w W W' : World} {t b kb B0 x B4 kd : Nat} {z y : Int} {f f' f'' : Int → Nat} {K : Nat → List Int} {v7 : Value}
theorem Bun.tab (C : Cs3 w t b kb B0 x B4) (h : Bun w W t b kb B0 x B4 kd z y f f' K v7) (hd : DT W' t b f'') (hf : Fr (· = b) W W') : Bun w W' t b kb B0 x B4 kd z y f f'' K v7 :=
  ⟨hd, h.kept.fr hf (fun e => by have := C.bk; omega) (fun k e => by have := C.bk; have := C.kB; omega), own_fr h.was hf (fun k e => by have := C.bk; have := C.kx; have := C.x4; omega), h.row.fr hf (fun e => by have := C.bk; have := C.kx; omega),
    Below.trans h.bel (Fr.below hf h.bel.size (fun _ e => by have := C.wb; omega)), Nat.le_trans h.big hf.size⟩
theorem Bun.next (h : Bun w W t b kb B0 x B4 kd z y f f' K v7) (hb : Below W.heap.size W W') : Bun w W' t b kb B0 x B4 kd z y f f' K v7 :=
  ⟨h.dt.next hb, h.kept.next hb, h.was.next hb, h.row.next hb, bt h.bel hb, Nat.le_trans h.big hb.size⟩
theorem Bun.kset (C : Cs3 w t b kb B0 x B4) (h : Bun w W t b kb B0 x B4 kd z y f f' K v7) (n : Nat) (hn : n < 7) (v : Value) (l : List Int) (ho : OwnI B0 l v W) (hll : l.length ≤ 8192) : Bun w (W.setCell ⟨kb, n, none⟩ v) t b kb B0 x B4 kd z y f f' (updK K n l) v7 := by
  obtain ⟨h1, h2⟩ := h.kept.set n hn v l ho hll C.kB
  exact ⟨h.dt.fr h2 (fun e => by have := C.tk; omega) (fun e => by have := C.bk; omega), h1, own_fr h.was h2 (fun k e => by have := C.kx; have := C.x4; omega), h.row.fr h2 (fun e => by have := C.kx; omega),
    Below.trans h.bel (Fr.below h2 h.bel.size (fun _ e => by have := C.wk; omega)), Nat.le_trans h.big h2.size⟩
end
def OnC (w W : World) (t b kb B0 x kd : Nat) (z y : Int) (f : Int → Nat) (v7 v8 : Value) : Prop := ∃ f' K G, StepR f f' G kd y ∧ KI f' K ∧ DT W t b f' ∧ KeptAt W kb B0 K ∧ GA W G v8 ∧ GA W (allL f) v7 ∧ RowAt W x 29 [.int .u8 kd, .int .i64 z, .int .i64 y] ∧ Below w.heap.size w W ∧ G.length ≤ 8192 ∧ B0 ≤ W.heap.size
theorem Bun.onC {w W : World} {t b kb B0 x B4 kd : Nat} {z y : Int} {f f' : Int → Nat} {K : Nat → List Int} {v7 v8 : Value} {G : List Int} (C : Cs3 w t b kb B0 x B4) (h : Bun w W t b kb B0 x B4 kd z y f f' K v7)
    (hs : StepR f f' G kd y) (hk : KI f' K) (hg : GA W G v8) (hl : G.length ≤ 8192) : OnC w W t b kb B0 x kd z y f v7 v8 :=
  ⟨f', K, G, hs, hk, h.dt, h.kept, hg, h.was.ga, h.row, h.bel, hl, Nat.le_trans C.B04 h.big⟩
def OnI (w : World) (t b kb B0 n : Nat) (i : Value) (W : World) : Prop := ∃ k : Nat, k ≤ n ∧ i = .int .i64 k ∧ ∃ f K, DT W t b f ∧ KeptAt W kb B0 K ∧ KI f K ∧ Below w.heap.size w W ∧ B0 ≤ W.heap.size
def WI (W0 : World) (n : Nat) (i : Value) (W : World) : Prop := ∃ k : Nat, k ≤ n ∧ i = .int .i64 k ∧ Below W0.heap.size W0 W
theorem allL_len (f : Int → Nat) : (allL f).length ≤ 8192 := theL_len _
theorem needed_ga (w : World) (l : List Int) (v : Value) (h : GA w l v) (hl : l.length ≤ 8192) (x : Int) :
    Calls Try.prog 14 #[v, .int .i64 x] w fun e w' => e = .returned (.bool (decide (x ∈ l))) ∧ w' = w := by
  obtain ⟨A, c, rfl, hs⟩ := h
  exact needed_any w A l.length c l hs rfl (by omega) x
set_option maxRecDepth 65000 in
set_option maxHeartbeats 8000000 in
theorem once_law (w : World) (a : Option Addr) (n cap : Nat) (l : List So) (hl : OpsAt w a n l) (hn : n ≤ maxLen) :
    Calls Try.prog 3 #[.slice a n cap] w fun e w' => e = .returned (.bool true) ∧ Below w.heap.size w w' := by
  have HL := Lib.hid hl
  have HA := Lib.hid (awake_any w)
  clear hl
  have hn' : n ≤ 9223372036854775807 := by unfold maxLen at hn; omega
  clear hn
  by_cases h100 : (80 : Int) < (n : Int)
  · have g1 : decide ((n : Int) > 80) = true := by simpa using h100
    go_enter Try.func3, Try.ntmps3
    go_wp2_with fail
    refine HA.out.mono ?_
    rintro e w1 ⟨rfl, hb⟩
    go_wp2_with fail
    all_goals refine bodyPost_ret (by simp [results, Try.results3, go_sem]; rfl) rfl ?_
    all_goals exact ⟨rfl, hb⟩
  · have g1 : decide ((n : Int) > 80) = false := by simpa using h100
    have g2 : decide ((80 : Int) < (n : Int)) = false := by simpa using h100
    clear h100
    go_enter Try.func3, Try.ntmps3
    go_wp2_with fail
    refine HA.out.mono ?_
    rintro e w1 ⟨rfl, hb⟩
    have HB1 := Lib.hid hb
    clear hb HA
    go_wp2_with fail
    refine (new_any w1).mono ?_
    rintro e w2 ⟨rfl, hd, hb⟩
    have hal : Below w2.heap.size w2 (w2.alloc (.cells #[.slice none 0 0, .slice none 0 0, .slice none 0 0, .slice none 0 0, .slice none 0 0, .slice none 0 0, .slice none 0 0] 27)) := (Below.refl _ _).alloc (Nat.le_refl _) _
    have HD := Lib.hid (hd.next hal)
    have HB := Lib.hid (bt (bt HB1.out hb) hal)
    have HK := Lib.hid (KeptAt.new w2)
    have hz : (w2.alloc (.cells #[.slice none 0 0, .slice none 0 0, .slice none 0 0, .slice none 0 0, .slice none 0 0, .slice none 0 0, .slice none 0 0] 27)).heap.size = w2.heap.size + 1 := by simp
    have HBZ := Lib.hid hz
    obtain ⟨t, ht⟩ : ∃ t, t = w1.heap.size + 1 := ⟨_, rfl⟩
    obtain ⟨b, hbb⟩ : ∃ b, b = w1.heap.size := ⟨_, rfl⟩
    obtain ⟨kb, hkb⟩ : ∃ kb, kb = w2.heap.size := ⟨_, rfl⟩
    have HN : Hid (w.heap.size ≤ b ∧ w.heap.size ≤ t ∧ t < kb ∧ b < kb ∧ w.heap.size ≤ kb) := Lib.hid (by have := HB1.out.size; have := hd.lt; omega)
    rw [← ht, ← hbb] at HD
    rw [← hkb] at HK HBZ
    rw [← ht]
    clear ht hbb hd hb hal hz HB1
    go_wp2_with fail
    rw [← hkb]
    clear hkb
    generalize w2.alloc (.cells #[.slice none 0 0, .slice none 0 0, .slice none 0 0, .slice none 0 0, .slice none 0 0, .slice none 0 0, .slice none 0 0] 27) = w3 at *
    obtain ⟨B0, hB0⟩ : ∃ B0, B0 = kb + 1 := ⟨_, rfl⟩
    rw [← hB0] at HK
    have HB0 : Hid (B0 = kb + 1) := Lib.hid hB0
    have HBZ2 : Hid (B0 ≤ w3.heap.size) := Lib.hid (by have := HBZ.out; omega)
    clear hB0 HBZ
    go_loopw [5] (fun i wr => OnI w t b kb B0 n i wr) (fun i _ => n - (intOf i).toNat)
    case atStart => exact ⟨0, by omega, rfl, fun _ => 0, fun _ => [], HD.out, HK.out, fun _ _ _ _ h => by simp at h, HB.out, HBZ2.out⟩
    case round =>
      obtain ⟨k, hk, rfl, f, K, hd, hkp, hki, hbl, hbz⟩ := hrel
      clear HD HK HB HBZ2
      have HD := Lib.hid hd
      have HK := Lib.hid hkp
      have HI := Lib.hid hki
      have HB := Lib.hid hbl
      have HBZ := Lib.hid hbz
      clear hd hkp hki hbl hbz
      by_cases hlt : k < n
      · have hlt' : (k : Int) < (n : Int) := by omega
        have k0 : (0 : Int) ≤ (k : Int) := by omega
        obtain ⟨b1, o1, rfl, l1, q1⟩ := (HL.out.next HB.out).get k hlt
        obtain ⟨st, hst⟩ : ∃ st, l[k]? = some st := ⟨l[k]'(by have := HL.out.1; omega), List.getElem?_eq_getElem _⟩
        have hso := q1 k st hst
        obtain ⟨z, hz⟩ : ∃ z : Int, z = st.n := ⟨_, rfl⟩
        obtain ⟨y, hy⟩ : ∃ y : Int, y = st.m := ⟨_, rfl⟩
        obtain ⟨kd, hkd⟩ : ∃ kd : Nat, kd = st.kind := ⟨_, rfl⟩
        unfold SoAt at hso
        rw [← hz, ← hy, ← hkd] at hso
        obtain ⟨d1, d2, d3⟩ := hso
        clear hst hz hy hkd q1
        have hal : Below wr.heap.size wr (wr.alloc (.cells #[.int .u8 kd, .int .i64 z, .int .i64 y] 29)) := (Below.refl _ _).alloc (Nat.le_refl _) _
        have HX := Lib.hid (RowAt.new wr 29 [.int .u8 kd, .int .i64 z, .int .i64 y])
        have HD1 := Lib.hid (HD.out.next hal)
        have HK1 := Lib.hid (HK.out.next hal)
        have HB1 := Lib.hid (bt HB.out hal)
        have HXN : Hid (t < wr.heap.size ∧ b < wr.heap.size ∧ kb < wr.heap.size ∧ w.heap.size ≤ wr.heap.size) := Lib.hid (by have := HD.out.lt; have := HK.out.lt; have := HB.out.size; omega)
        have HBZ1 : Hid (B0 ≤ (wr.alloc (.cells #[.int .u8 kd, .int .i64 z, .int .i64 y] 29)).heap.size) := Lib.hid (by have := hal.size; have := HBZ.out; omega)
        clear hal HD HK HB HBZ
        go_wp2_with fail
        generalize wr.alloc (.cells #[.int .u8 kd, .int .i64 z, .int .i64 y] 29) = w4 at *
        obtain ⟨x, hx⟩ : ∃ x, x = wr.heap.size := ⟨_, rfl⟩
        rw [← hx] at HX HXN ⊢
        clear hx d1 d2 d3
        refine (all_any w4 t b f HD1.out).mono ?_
        rintro e w5 ⟨v7, rfl, ho, hb⟩
        have HX5 := Lib.hid (HX.out.next hb)
        have HD5 := Lib.hid (HD1.out.next hb)
        have HK5 := Lib.hid (HK1.out.next hb)
        have HB5 := Lib.hid (bt HB1.out hb)
        have HV7 := Lib.hid ho
        have HW4 : Hid (x < w4.heap.size ∧ B0 ≤ w4.heap.size ∧ w4.heap.size ≤ w5.heap.size ∧ x < w5.heap.size) := Lib.hid (by have := HX.out.lt; have := hb.size; have := HBZ1.out; omega)
        clear ho hb HX HD1 HK1 HB1 HBZ1
        have x0 : w5.cell? ⟨x, 0, none⟩ = some (.int .u8 kd) := HX5.out.cell 0
        have x1 : w5.cell? ⟨x, 1, none⟩ = some (.int .i64 z) := HX5.out.cell 1
        have x2 : w5.cell? ⟨x, 2, none⟩ = some (.int .i64 y) := HX5.out.cell 2
        go_upto_block 2 with fail
        go_cut [8, 9, 10] (fun s8 _ _ wx => OnC w wx t b kb B0 x kd z y f v7 s8)
        case first =>
          have HC : Hid (Cs3 w t b kb B0 x w4.heap.size) := Lib.hid (by
            have := HN.out
            have := HB0.out
            have := HXN.out
            have := HW4.out
            exact ⟨by omega, by omega, by omega, by omega, by omega, by omega, by omega, by omega⟩)
          have HU : Hid (Bun w w5 t b kb B0 x w4.heap.size kd z y f f K v7) := Lib.hid ⟨HD5.out, HK5.out, HV7.out, HX5.out, HB5.out, HW4.out.2.2.1⟩
          clear HN HB0 HXN HW4 HD5 HK5 HV7 HX5 HB5
          by_cases e0 : kd = 0
          · have e0' : ((kd : Int) == 0) = true := by simp; omega
            have HK0 := Lib.hid e0
            clear e0
            as_aux_lemma =>
              go_wp2_with fail
              refine (need_any w5 t b f HU.out.dt z y).mono ?_
              rintro e w6 ⟨rfl, hd, hf⟩
              have HP : Hid (OnC w w6 t b kb B0 x kd z y f v7 (.slice none 0 0)) := Lib.hid (by
                obtain ⟨q1, q2⟩ := need_step HU.out.dt.vm z y
                rw [← HK0.out] at q1
                exact (HU.out.tab HC.out hd hf).onC HC.out q1 (q2 K HI.out) (GA.nil _) (by simp))
              clear hd hf x0 x1 x2
              go_wp2_with fail
              go_meet
              case rel => exact HP.out
          · have e0' : ((kd : Int) == 0) = false := by simp; omega
            by_cases e1 : kd = 1
            · have e1' : ((kd : Int) == 1) = true := by simp; omega
              have HK0 := Lib.hid e1
              clear e0 e1
              as_aux_lemma =>
                go_wp2_with fail
                refine (give_any w5 t b f HU.out.dt z y).mono ?_
                rintro e w6 ⟨rfl, hd, hf⟩
                have HU6 := Lib.hid (HU.out.tab HC.out hd hf)
                obtain ⟨q1, q2, q3⟩ := give_step HU.out.dt.vm z y
                rw [← HK0.out] at q1
                have HQ1 := Lib.hid q1
                have HQ2 := Lib.hid q2
                have HQ3 := Lib.hid q3
                have HNO := Lib.hid (fun h => give_no (f := f) (a := z) (y := y) h)
                have HYES := Lib.hid (fun h => give_yes (f := f) (a := z) (y := y) h)
                have x0 : w6.cell? ⟨x, 0, none⟩ = some (.int .u8 kd) := HU6.out.row.cell 0
                have x1 : w6.cell? ⟨x, 1, none⟩ = some (.int .i64 z) := HU6.out.row.cell 1
                have x2 : w6.cell? ⟨x, 2, none⟩ = some (.int .i64 y) := HU6.out.row.cell 2
                clear hd hf q1 q2 q3 HU
                by_cases h0 : giveE f z y = 0
                · rw [h0]
                  obtain ⟨hz, _⟩ := HYES.out h0
                  unfold okT at hz
                  obtain ⟨Z, rfl⟩ : ∃ Z : Nat, z = Z := ⟨z.toNat, by omega⟩
                  have z0 : (0 : Int) ≤ (Z : Int) := by omega
                  have z7 : (Z : Int) < 7 := by omega
                  have HZ7 : Hid (Z < 7) := Lib.hid (by omega)
                  have H0 := Lib.hid h0
                  clear hz h0 HNO HYES
                  obtain ⟨vk, hvk, _⟩ := HU6.out.kept.cell Z HZ7.out
                  have hfk : w6.frozen? ⟨kb, Z, none⟩ = false := by obtain ⟨vs, _, hr, _⟩ := HU6.out.kept; exact hr.free Z
                  cases hR : giveR f Z y with
                  | true =>
                    rw [hR] at HQ1
                    clear hR
                    have hal : Below w6.heap.size w6 (w6.alloc (.cells #[.int .i64 y] 3)) := (Below.refl _ _).alloc (Nat.le_refl _) _
                    have HU7 := Lib.hid (HU6.out.next hal)
                    have HG7 := Lib.hid (RowAt.new w6 3 [.int .i64 y])
                    have HLT : Hid (kb < w6.heap.size) := Lib.hid HU6.out.kept.lt
                    have f1 : (w6.alloc (.cells #[.int .i64 y] 3)).cell? ⟨kb, Z, none⟩ = some vk := (hal.cell HLT.out).trans hvk
                    have f2 : (w6.alloc (.cells #[.int .i64 y] 3)).frozen? ⟨kb, Z, none⟩ = false := (hal.frozen HLT.out).trans hfk
                    have f3 : (w6.alloc (.cells #[.int .i64 y] 3)).cell? ⟨x, 1, none⟩ = some (.int .i64 Z) := HU7.out.row.cell 1
                    clear hal
                    by_cases hz0 : Z = 0
                    · have g : ((Z : Int) != 0) = false := by simp [hz0]
                      have HP : Hid (OnC w (w6.alloc (.cells #[.int .i64 y] 3)) t b kb B0 x kd Z y f v7 (.slice (some ⟨w6.heap.size, 0, none⟩) 1 1)) := Lib.hid (HU7.out.onC HC.out HQ1.out (HQ3.out H0.out (by omega) K HI.out) (GA.row HG7.out) (by simp))
                      clear hz0
                      go_wp2_with fail
                      go_meet
                      case rel => exact HP.out
                    · have g : ((Z : Int) != 0) = true := by simp; omega
                      have HP : Hid (OnC w ((w6.alloc (.cells #[.int .i64 y] 3)).setCell ⟨kb, Z, none⟩ (.slice none 0 0)) t b kb B0 x kd Z y f v7 (.slice (some ⟨w6.heap.size, 0, none⟩) 1 1)) := Lib.hid ((HU7.out.kset HC.out Z HZ7.out _ [] (OwnI.nil _ _) (by simp)).onC HC.out HQ1.out (by have := HQ2.out H0.out K HI.out; rwa [Int.toNat_natCast] at this) (GA.row (HG7.out.other Z _ (by have := HLT.out; omega))) (by simp))
                      clear hz0
                      go_wp2_with fail
                      go_meet
                      case rel => exact HP.out
                  | false =>
                    rw [hR] at HQ1
                    clear hR
                    by_cases hz0 : Z = 0
                    · have g : ((Z : Int) != 0) = false := by simp [hz0]
                      have HP : Hid (OnC w w6 t b kb B0 x kd Z y f v7 (.slice none 0 0)) := Lib.hid (HU6.out.onC HC.out HQ1.out (HQ3.out H0.out (by omega) K HI.out) (GA.nil _) (by simp))
                      clear hz0
                      go_wp2_with fail
                      go_meet
                      case rel => exact HP.out
                    · have g : ((Z : Int) != 0) = true := by simp; omega
                      have HP : Hid (OnC w (w6.setCell ⟨kb, Z, none⟩ (.slice none 0 0)) t b kb B0 x kd Z y f v7 (.slice none 0 0)) := Lib.hid ((HU6.out.kset HC.out Z HZ7.out _ [] (OwnI.nil _ _) (by simp)).onC HC.out HQ1.out (by have := HQ2.out H0.out K HI.out; rwa [Int.toNat_natCast] at this) (GA.nil _) (by simp))
                      clear hz0
                      go_wp2_with fail
                      go_meet
                      case rel => exact HP.out
                · obtain ⟨o1, o2⟩ := HNO.out h0
                  rw [o2]
                  rw [o2] at HQ1
                  rw [o1] at HQ1 HU6
                  have hE : (giveE f z y == 0) = false := by simpa using h0
                  have hE2 : (giveE f z y != 0) = true := by simpa using h0
                  have HP : Hid (OnC w w6 t b kb B0 x kd z y f v7 (.slice none 0 0)) := Lib.hid (HU6.out.onC HC.out HQ1.out HI.out (GA.nil _) (by simp))
                  clear h0 o1 o2 HNO HYES HQ1 HQ2 HQ3
                  generalize giveE f z y = E at *
                  go_wp2_with fail
                  go_meet
                  case rel => exact HP.out
            · have e1' : ((kd : Int) == 1) = false := by simp; omega
              by_cases e2 : kd = 2
              · have e2' : ((kd : Int) == 2) = true := by simp; omega
                clear e0 e1 e2
                as_aux_lemma =>
                  go_wp2_with fail
                  refine (like_any w5 t b f HU.out.dt z y).mono ?_
                  rintro e w6 ⟨rfl, hd, hf⟩
                  have HU6 := Lib.hid (HU.out.tab HC.out hd hf)
                  obtain ⟨q1, q2⟩ := like_step HU.out.dt.vm z y kd y
                  have HQ1 := Lib.hid q1
                  have HQ2 := Lib.hid q2
                  have HNO := Lib.hid (fun h => like_no (f := f) (a := z) (c := y) h)
                  clear hd hf q1 q2 HU x0 x1 x2
                  by_cases h0 : likeE f z y = 0
                  · rw [h0]
                    obtain ⟨hy, hki⟩ := HQ2.out h0
                    unfold okT at hy
                    obtain ⟨Y, rfl⟩ : ∃ Y : Nat, y = Y := ⟨y.toNat, by omega⟩
                    have y0 : (0 : Int) ≤ (Y : Int) := by omega
                    have y7 : (Y : Int) < 7 := by omega
                    have HY7 : Hid (Y < 7) := Lib.hid (by omega)
                    have HKI : Hid (KI (likeF f z Y) (updK K Y (ofL (likeF f z Y) Y))) := Lib.hid (by have := hki K HI.out; rwa [Int.toNat_natCast] at this)
                    clear hy hki h0 HNO HQ2
                    go_wp2_with fail
                    have HU7 := Lib.hid (HU6.out.next ((Below.refl _ _).drew))
                    obtain ⟨vk, hvk, _⟩ := HU7.out.kept.cell Y HY7.out
                    have hfk : w6.drew.frozen? ⟨kb, Y, none⟩ = false := by obtain ⟨vs, _, hr, _⟩ := HU7.out.kept; exact hr.free Y
                    have x2 : w6.drew.cell? ⟨x, 2, none⟩ = some (.int .i64 Y) := HU7.out.row.cell 2
                    have HLT : Hid (kb < w6.drew.heap.size ∧ x < w6.drew.heap.size) := Lib.hid ⟨HU7.out.kept.lt, HU7.out.row.lt⟩
                    go_region_held3 (fun w' => w'.cell? ⟨x, 2, none⟩ = some (.int .i64 Y))
                      ((first | go_keep | exact (hb.cell HLT.out.2).trans x2 | exact ((HU7.out.row.next hb).other Y _ (by have := HC.out.kx; omega)).cell 2))
                      ((go_at_call 12; refine (of_any _ t b (likeF f z Y) HU7.out.dt Y).mono ?_; rintro e w7 ⟨v, rfl, ho, hb⟩; obtain ⟨va, vc, rfl⟩ := ho.shape; have k1 := (hb.cell HLT.out.1).trans hvk; have k2 := (hb.frozen HLT.out.1).trans hfk))
                    have HP : Hid (OnC w (w7.setCell ⟨kb, Y, none⟩ (.slice va (ofL (likeF f z Y) Y).length vc)) t b kb B0 x kd z Y f v7 (.slice none 0 0)) := Lib.hid (((HU7.out.next hb).kset HC.out Y HY7.out _ _ (ho.mono (Nat.le_trans HC.out.B04 HU7.out.big)) (ofL_len _ _)).onC HC.out HQ1.out HKI.out (GA.nil _) (by simp))
                    clear ho hb hvk hfk x2 k1 k2
                    go_wp2_with fail
                    go_meet
                    case rel => exact HP.out
                  · have o1 := HNO.out h0
                    rw [o1] at HQ1 HU6
                    have hE : (likeE f z y == 0) = false := by simpa using h0
                    have HP : Hid (OnC w w6 t b kb B0 x kd z y f v7 (.slice none 0 0)) := Lib.hid (HU6.out.onC HC.out HQ1.out HI.out (GA.nil _) (by simp))
                    clear h0 o1 HNO HQ1 HQ2
                    generalize likeE f z y = E at *
                    go_wp2_with fail
                    go_meet
                    case rel => exact HP.out
              · have e2' : ((kd : Int) == 2) = false := by simp; omega
                clear e0 e1 e2
                as_aux_lemma =>
                  by_cases hz : 0 ≤ z ∧ z ≤ 6
                  · obtain ⟨Z, rfl⟩ : ∃ Z : Nat, z = Z := ⟨z.toNat, by omega⟩
                    have z0 : (0 : Int) ≤ (Z : Int) := by omega
                    have z7 : (Z : Int) < 7 := by omega
                    have g1 : decide ((Z : Int) ≥ 0) = true := by simp
                    have g2 : decide ((Z : Int) ≤ 6) = true := by simp; omega
                    have HZ7 : Hid (Z < 7) := Lib.hid (by omega)
                    have HOK : Hid (okT (Z : Int)) := Lib.hid hz
                    clear hz
                    obtain ⟨vk, hvk, _⟩ := HU.out.kept.cell Z HZ7.out
                    have hfk : w5.frozen? ⟨kb, Z, none⟩ = false := by obtain ⟨vs, _, hr, _⟩ := HU.out.kept; exact hr.free Z
                    have HU6 := Lib.hid (HU.out.kset HC.out Z HZ7.out (.slice none 0 0) [] (OwnI.nil _ _) (by simp))
                    have x3 : (w5.setCell ⟨kb, Z, none⟩ (.slice none 0 0)).cell? ⟨x, 1, none⟩ = some (.int .i64 Z) := HU6.out.row.cell 1
                    go_wp2_with fail
                    refine (drop_any _ t b f HU6.out.dt Z).mono ?_
                    rintro e w7 ⟨v, rfl, ho, hd, hf⟩
                    have HP : Hid (OnC w w7 t b kb B0 x kd Z y f v7 v) := Lib.hid (by
                      obtain ⟨q1, q2, _⟩ := drop_step HU6.out.dt.vm Z kd y
                      refine (HU6.out.tab HC.out hd hf).onC HC.out q1 (by have := q2 HOK.out K HI.out; rwa [Int.toNat_natCast] at this) ho.ga ?_
                      unfold dropL
                      rw [if_pos HOK.out]
                      exact theL_len _)
                    clear ho hd hf hvk hfk x3 x0 x1 x2
                    generalize dropE (Z : Int) = E at *
                    go_wp2_with fail
                    go_meet
                    case rel => exact HP.out
                  · have hcase : (decide (z ≥ 0) = true ∧ decide (0 ≤ z) = true ∧ decide (z ≤ 6) = false) ∨ (decide (z ≥ 0) = false ∧ decide (0 ≤ z) = false) := by
                      by_cases h1 : 0 ≤ z
                      · exact .inl ⟨by simpa using h1, by simpa using h1, by simp; omega⟩
                      · exact .inr ⟨by simpa using h1, by simpa using h1⟩
                    have HOK : Hid (¬ okT z) := Lib.hid hz
                    clear hz
                    rcases hcase with ⟨g1, g1', g2⟩ | ⟨g1, g1'⟩
                    all_goals
                      go_wp2_with fail
                      refine (drop_any w5 t b f HU.out.dt z).mono ?_
                      rintro e w7 ⟨v, rfl, ho, hd, hf⟩
                      have HP : Hid (OnC w w7 t b kb B0 x kd z y f v7 v) := Lib.hid (by
                        obtain ⟨q1, _, q3⟩ := drop_step HU.out.dt.vm z kd y
                        refine (HU.out.tab HC.out hd hf).onC HC.out q1 (by rw [q3 HOK.out]; exact HI.out) ho.ga ?_
                        unfold dropL
                        rw [if_neg HOK.out]
                        simp)
                      clear ho hd hf x0 x1 x2
                      generalize dropE z = E at *
                      go_wp2_with fail
                      go_meet
                      case rel => exact HP.out
        case rest =>
          obtain ⟨f', K', G, hs, hki, hd, hkp, hg, h7, hx, hb, hl, hz⟩ := hcut
          have HS := Lib.hid hs
          have HKI := Lib.hid hki
          have HDc := Lib.hid hd
          have HKc := Lib.hid hkp
          have HGc := Lib.hid hg
          have H7c := Lib.hid h7
          have HXc := Lib.hid hx
          have HBc := Lib.hid hb
          have HGL := Lib.hid hl
          have HZc := Lib.hid hz
          have HVM := Lib.hid HD5.out.vm
          clear hs hki hd hkp hg h7 hx hb hl hz x0 x1 x2 HX5 HD5 HK5 HB5 HV7 HW4 HXN HI HB0
          as_aux_lemma =>
            go_wp2_with fail
            refine (all_any wc t b f' HDc.out).mono ?_
            rintro e w6 ⟨v11, rfl, ho, hb⟩
            have HD6 := Lib.hid (HDc.out.next hb)
            have HK6 := Lib.hid (HKc.out.next hb)
            have HG6 := Lib.hid (HGc.out.next hb)
            have H76 := Lib.hid (H7c.out.next hb)
            have HX6 := Lib.hid (HXc.out.next hb)
            have HB6 := Lib.hid (bt HBc.out hb)
            have HZ6 : Hid (B0 ≤ w6.heap.size) := Lib.hid (Nat.le_trans HZc.out hb.size)
            have HN6 := Lib.hid ho.ga
            clear ho hb HDc HKc HGc H7c HXc HBc HZc
            obtain ⟨gA, gc, hge, hgs⟩ := HG6.out
            obtain ⟨A7, c7, h7e, h7s⟩ := H76.out
            obtain ⟨A11, c11, h11e, h11s⟩ := HN6.out
            subst hge h7e h11e
            have HGS := Lib.hid hgs
            have H7S := Lib.hid h7s
            have H11S := Lib.hid h11s
            clear hgs h7s h11s
            have HLG : Hid (G.length ≤ 8192) := Lib.hid HGL.out
            have HL7 : Hid ((allL f).length ≤ 8192) := Lib.hid (allL_len f)
            have HL11 : Hid ((allL f').length ≤ 8192) := Lib.hid (allL_len f')
            have HM7 : Hid (∀ k, k ∈ allL f ↔ f k ≠ 0) := Lib.hid (fun k => mem_allL HVM.out)
            have HM11 : Hid (∀ k, k ∈ allL f' ↔ f' k ≠ 0) := Lib.hid (fun k => mem_allL HD6.out.vm)
            generalize hL7 : allL f = L7 at *
            generalize hL11 : allL f' = L11 at *
            clear hL7 hL11
            have lg : G.length ≤ 8192 := HLG.out
            have l7 : L7.length ≤ 8192 := HL7.out
            have l11 : L11.length ≤ 8192 := HL11.out
            have HGe : Hid (GA w6 G (.slice gA G.length gc)) := HG6
            clear HG6 HGL
            go_wp2_with fail
            go_loopw [12] (fun i wy => WI w6 G.length i wy) (fun i _ => G.length - (intOf i).toNat)
            case atStart => exact ⟨0, by omega, rfl, Below.refl _ _⟩
            case round =>
              obtain ⟨j, hj, rfl, hby⟩ := hrel
              have HY := Lib.hid hby
              clear hby
              by_cases hjl : j < G.length
              · as_aux_lemma =>
                have hjl' : (j : Int) < (G.length : Int) := by omega
                have j0 : (0 : Int) ≤ (j : Int) := by omega
                obtain ⟨gb, go, rfl, gl, gq⟩ := HGS.out.get j hjl
                obtain ⟨u, hu⟩ : ∃ u, G[j]? = some u := ⟨G[j], List.getElem?_eq_getElem _⟩
                have HU : Hid (f u ≠ 0 ∧ f' u = 0) := Lib.hid (HS.out.gone u (List.mem_of_getElem? hu))
                rw [List.getElem?_map, hu] at gq
                have HGB : Hid (gb < w6.heap.size) := Lib.hid gl
                have HC6 : Hid (w6.cell? ⟨gb, go + j, none⟩ = some (.int .i64 u)) := Lib.hid gq
                have c0 : wr.cell? ⟨gb, go + j, none⟩ = some (.int .i64 u) := (HY.out.cell gl).trans gq
                clear hu gq gl
                go_wp2_with fail
                have h := needed_ga wr L7 _ (H76.out.next HY.out) HL7.out u
                rw [decide_eq_true ((HM7.out u).2 HU.out.1)] at h
                refine h.mono ?_
                clear h
                rintro e w' ⟨rfl, hw⟩
                rw [hw]
                clear hw w'
                go_wp2_with fail
                have h := needed_ga wr L11 _ (HN6.out.next HY.out) HL11.out u
                rw [decide_eq_false (fun x => (HM11.out u).1 x HU.out.2)] at h
                refine h.mono ?_
                clear h
                rintro e w' ⟨rfl, hw⟩
                rw [hw]
                clear hw w'
                go_wp2_with fail
                have h := who_any wr t b f' (HD6.out.next HY.out) u
                rw [(whoK_nil (HD6.out.vm.lt u)).2 HU.out.2] at h
                refine h.mono ?_
                clear h
                rintro e wy ⟨vw, rfl, ho, hb⟩
                obtain ⟨wa, wcap, rfl⟩ := ho.shape
                have HYy := Lib.hid (bt HY.out hb)
                clear ho hb c0
                go_wp2_with fail
                go_loopw [13] (fun i wz => ∃ m : Nat, 1 ≤ m ∧ m ≤ 7 ∧ i = .int .i64 m ∧ Below w6.heap.size w6 wz) (fun i _ => 7 - (intOf i).toNat)
                case atStart => exact ⟨1, by omega, by omega, rfl, HYy.out⟩
                case round =>
                  obtain ⟨m, hm1, hm7, rfl, hbm⟩ := hrel
                  clear HYy
                  have HZ := Lib.hid hbm
                  clear hbm
                  by_cases hml : m < 7
                  · have hml' : (m : Int) < 7 := by omega
                    have m0 : (0 : Int) ≤ (m : Int) := by omega
                    obtain ⟨vk, hvk, hok, hlk⟩ := (HK6.out.next HZ.out).cell m hml
                    obtain ⟨ka, kc, rfl⟩ := hok.shape
                    have hnk := needed_ga wr.drew (K' m) _ (hok.ga.next ((Below.refl _ _).drew)) hlk u
                    rw [decide_eq_false (HKI.out.not hm1 hml HU.out.2)] at hnk
                    have HNK := Lib.hid hnk
                    have c0 : wr.cell? ⟨gb, go + j, none⟩ = some (.int .i64 u) := (HZ.out.cell HGB.out).trans HC6.out
                    clear hnk hok hlk
                    generalize (K' m).length = lk at *
                    go_wp2_with fail
                    go_region_held3 (fun w' => w'.cell? ⟨gb, go + j, none⟩ = some (.int .i64 u) ∧ w'.cell? ⟨kb, m, none⟩ = some (.slice ka lk kc)) (go_keep) ((go_at_call 14; refine HNK.out.mono ?_; rintro e w' ⟨rfl, hw⟩; rw [hw]; clear hw w'))
                    go_wp2_with fail
                    go_roundw
                    case rel => exact ⟨m + 1, by omega, by omega, by go_num, HZ.out.drew⟩
                    case measure => simp [intOf]; omega
                  · obtain rfl : m = 7 := by omega
                    go_wp2_with fail
                    go_roundw
                    case rel => exact ⟨j + 1, by omega, by go_num, HZ.out⟩
                    case measure => simp [intOf]; omega
              · as_aux_lemma =>
                go_wp2_with fail
                go_loopw [14] (fun i wy => WI w6 L7.length i wy) (fun i _ => L7.length - (intOf i).toNat)
                case atStart => exact ⟨0, by omega, rfl, HY.out⟩
                case round =>
                  obtain ⟨j, hj, rfl, hby⟩ := hrel
                  clear HY
                  have HY := Lib.hid hby
                  clear hby
                  by_cases hjl : j < L7.length
                  · as_aux_lemma =>
                    have hjl' : (j : Int) < (L7.length : Int) := by omega
                    have j0 : (0 : Int) ≤ (j : Int) := by omega
                    obtain ⟨gb, go, rfl, gl, gq⟩ := H7S.out.get j hjl
                    obtain ⟨u, hu⟩ : ∃ u, L7[j]? = some u := ⟨L7[j], List.getElem?_eq_getElem _⟩
                    have HU : Hid (f u ≠ 0) := Lib.hid ((HM7.out u).1 (List.mem_of_getElem? hu))
                    rw [List.getElem?_map, hu] at gq
                    have c0 : wr.cell? ⟨gb, go + j, none⟩ = some (.int .i64 u) := (HY.out.cell gl).trans gq
                    clear hu gq gl
                    by_cases hin : u ∈ L11
                    · go_wp2_with fail
                      have h := needed_ga wr L11 _ (HN6.out.next HY.out) HL11.out u
                      rw [decide_eq_true hin] at h
                      refine h.mono ?_
                      clear h hin
                      rintro e w' ⟨rfl, hw⟩
                      rw [hw]
                      clear hw w'
                      go_wp2_with fail
                      go_roundw
                      case rel => exact ⟨j + 1, by omega, by go_num, HY.out⟩
                      case measure => simp [intOf]; omega
                    · have HGU : Hid (u ∈ G) := Lib.hid ((HS.out.left u HU.out).resolve_left (fun h => hin ((HM11.out u).2 h)))
                      go_wp2_with fail
                      have h := needed_ga wr L11 _ (HN6.out.next HY.out) HL11.out u
                      rw [decide_eq_false hin] at h
                      refine h.mono ?_
                      clear h hin
                      rintro e w' ⟨rfl, hw⟩
                      rw [hw]
                      clear hw w'
                      go_wp2_with fail
                      have h := needed_ga wr G _ (HGe.out.next HY.out) HLG.out u
                      rw [decide_eq_true HGU.out] at h
                      refine h.mono ?_
                      clear h
                      rintro e w' ⟨rfl, hw⟩
                      rw [hw]
                      clear hw w'
                      go_wp2_with fail
                      go_roundw
                      case rel => exact ⟨j + 1, by omega, by go_num, HY.out⟩
                      case measure => simp [intOf]; omega
                  · go_wp2_with fail
                    go_loopw [15] (fun i wy => WI w6 L11.length i wy) (fun i _ => L11.length - (intOf i).toNat)
                    case atStart => exact ⟨0, by omega, rfl, HY.out⟩
                    case round =>
                      obtain ⟨j, hj, rfl, hby⟩ := hrel
                      clear HY
                      have HY := Lib.hid hby
                      clear hby
                      by_cases hjl : j < L11.length
                      · as_aux_lemma =>
                        have hjl' : (j : Int) < (L11.length : Int) := by omega
                        have j0 : (0 : Int) ≤ (j : Int) := by omega
                        obtain ⟨gb, go, rfl, gl, gq⟩ := H11S.out.get j hjl
                        obtain ⟨u, hu⟩ : ∃ u, L11[j]? = some u := ⟨L11[j], List.getElem?_eq_getElem _⟩
                        have HU : Hid (f' u ≠ 0) := Lib.hid ((HM11.out u).1 (List.mem_of_getElem? hu))
                        rw [List.getElem?_map, hu] at gq
                        have c0 : wr.cell? ⟨gb, go + j, none⟩ = some (.int .i64 u) := (HY.out.cell gl).trans gq
                        have m1 : gb < wr.heap.size := Nat.lt_of_lt_of_le gl HY.out.size
                        have hxr := HX6.out.next HY.out
                        have m2 : x < wr.heap.size := hxr.lt
                        have x0 : wr.cell? ⟨x, 0, none⟩ = some (.int .u8 kd) := hxr.cell 0
                        have x2 : wr.cell? ⟨x, 2, none⟩ = some (.int .i64 y) := hxr.cell 2
                        have HW0 : Hid ((whoK 7 (f' u)).length ≠ 0) := Lib.hid (fun e => HU.out ((whoK_nil (HD6.out.vm.lt u)).1 (List.eq_nil_of_length_eq_zero e)))
                        have H7Y := Lib.hid (H76.out.next HY.out)
                        have HDY := Lib.hid (HD6.out.next HY.out)
                        clear hu gq gl hxr
                        have hcs : (decide (u ∈ L7) = true) ∨ (decide (u ∈ L7) = false ∧ ((kd : Int) != 0) = false ∧ u = y) := by
                          by_cases hin : u ∈ L7
                          · exact .inl (by simpa using hin)
                          · rcases HS.out.came u HU.out with h | ⟨h1, h2⟩
                            · exact absurd ((HM7.out u).2 h) hin
                            · exact .inr ⟨by simpa using hin, by simp [h1], h2⟩
                        obtain ⟨db, hdb⟩ : ∃ db, db = decide (u ∈ L7) := ⟨_, rfl⟩
                        rw [← hdb] at hcs
                        have HDB := Lib.hid hdb
                        clear hdb
                        obtain ⟨n0, hn0⟩ : ∃ n0, n0 = (whoK 7 (f' u)).length := ⟨_, rfl⟩
                        have hne0 : ((n0 : Int) == 0) = false := by have := HW0.out; rw [← hn0] at this; simp; omega
                        have HNE := Lib.hid hn0
                        clear hn0
                        rcases hcs with rfl | ⟨rfl, hkd, rfl⟩
                        all_goals
                          go_wp2_with fail
                          refine wp_region_parts (by kernel_rfl) (by kernel_rfl) ?_
                          have hb0 : Below wr.heap.size wr wr.drew := (Below.refl _ _).drew
                          have hneq : (u != u) = false := by simp
                          generalize wr.drew = W at *
                          apply regL_lq W.heap.size
                          intro D hD hn
                          have p1 := fun z : Bd W.heap.size W D => ((bt hb0 z.ok).cell m1).trans c0
                          have p2 := fun z : Bd W.heap.size W D => ((bt hb0 z.ok).cell m2).trans x0
                          have p3 := fun z : Bd W.heap.size W D => ((bt hb0 z.ok).cell m2).trans x2
                          have pn : ∀ z : Bd W.heap.size W D, Calls Try.prog 14 #[.slice A7 L7.length c7, .int .i64 u] z.val fun e w' => e = .returned (.bool (decide (u ∈ L7))) ∧ z.val = w' := fun z => (needed_ga z.val L7 _ (H7Y.out.next (bt hb0 z.ok)) HL7.out u).mono fun _ _ ⟨h1, h2⟩ => ⟨h1, h2.symm⟩
                          rw [← HDB.out] at pn
                          repeat (first | (apply wpLQ_skip rfl; simp only [Act.put, List.setIfInBounds_toArray, List.set_cons_succ, List.set_cons_zero]) | (apply wpLQ_pin rfl rfl; intro K hK; go_big_quiet_op; (first | go_big_quiet_on | go_big_quiet_call ((go_at_call 14; exact Calls.bds _ (pn _)))); apply And.intro rfl))
                          apply wpLQ_loose (fun v _ => ∃ A c, v = .slice A n0 c) (fun _ _ _ _ h => h) (Nat.le_refl _) hD rfl
                          · intro z _
                            unfold Runs
                            go_simp
                            refine (who_any z.val t b f' (HDY.out.next (bt hb0 z.ok)) u).mono ?_
                            rintro e w1 ⟨v, rfl, ho, hb⟩
                            obtain ⟨A, c, e⟩ := ho.shape
                            exact ⟨v, rfl, ⟨A, c, by rw [HNE.out]; exact e⟩, hb⟩
                          intro vw
                          simp only [Act.put, List.setIfInBounds_toArray, List.set_cons_succ, List.set_cons_zero]
                          apply wpLQ_at (.int .i64 n0) (Nat.le_refl _) hD rfl
                          · intro z hx
                            obtain ⟨A, c, rfl⟩ := Facts.head hx (anc_of (by kernel_rfl))
                            unfold Runs
                            go_simp
                            first | exact ⟨rfl, Below.refl _ _⟩ | simp
                          simp only [Act.put, List.setIfInBounds_toArray, List.set_cons_succ, List.set_cons_zero]
                          repeat (first | (apply wpLQ_skip rfl; simp only [Act.put, List.setIfInBounds_toArray, List.set_cons_succ, List.set_cons_zero]) | (apply wpLQ_pin rfl rfl; intro K hK; go_big_quiet_op; go_big_quiet_on; apply And.intro rfl))
                          apply wpLQ_nil (by simp)
                          intro W1 hb1 _
                          have HY2 := Lib.hid (bt HY.out (bt hb0 hb1))
                          clear p1 p2 p3 pn hn hD hb1 hb0 c0 x0 x2 m1 m2 hneq
                          go_wp2_with fail
                          go_roundw
                          case rel => exact ⟨j + 1, by omega, by go_num, HY2.out⟩
                          case measure => simp [intOf]; omega
                      · go_wp2_with fail
                        go_roundw
                        case rel => exact ⟨k + 1, by omega, by go_num, f', K', HD6.out.next HY.out, HK6.out.next HY.out, HKI.out, bt HB6.out HY.out, Nat.le_trans HZ6.out HY.out.size⟩
                        case measure => simp [intOf]; omega
      · go_wp2_with fail
        all_goals refine bodyPost_ret (by simp [results, Try.results3, go_sem]; rfl) rfl ?_
        all_goals exact ⟨rfl, HB.out⟩
end Go.Proofs.Ytaokogeblpjabaa
