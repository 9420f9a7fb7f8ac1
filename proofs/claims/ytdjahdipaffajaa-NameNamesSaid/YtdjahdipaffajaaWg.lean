/- strings.ContainsAny at two ASCII bytes, of any text. -/
import Derived.Test.YtdjahdipaffajaaWf
import Derived.Test.YtdjahdipaffajaaSh
import Derived.LoopN
import Derived.WalkMore
import Derived.Deep.QuietTactic
namespace Go.Proofs.Ytdjahdipaffajaa
open Go.RowKit
theorem run_next_at {P : Program} (W : World) (b : Nat) (s : ByteArray) (pos : Nat) (ty : TypeId) (hb : W.heap[b]? = some (.stringIter s pos)) (h : pos < s.size) :
    (Instr.next (.pointer (some ⟨b, 0, none⟩)) true ty).run P W = .ok (.tuple #[.bool true, .int .i64 pos, .int .i32 (Utf8.decode s pos).1]) (W.putObj b (.stringIter s (pos + (Utf8.decode s pos).2))) := by
  simp [Instr.next, getObj, setObj, Sem.run_bind, Sem.run, hb, Result.andThen, h, goInt, World.putObj]
theorem run_next_done {P : Program} (W : World) (b : Nat) (s : ByteArray) (pos : Nat) (ty : TypeId) (hb : W.heap[b]? = some (.stringIter s pos)) (h : ¬ pos < s.size) :
    (Instr.next (.pointer (some ⟨b, 0, none⟩)) true ty).run P W = .ok (.tuple #[.bool false]) W := by
  simp [Instr.next, getObj, Sem.run, hb, h]
theorem get_bang (s : ByteArray) (i : Nat) (h : i < s.size) : s.get! i = s[i]'h := by
  simp [ByteArray.get!, getElem!_pos, h]
  rfl
/-- What stands at a byte that is no ASCII sign. -/
theorem decode_hi (s : ByteArray) (i : Nat) (h : i < s.size) (ha : 128 ≤ (s[i]'h).toNat) :
    128 ≤ (Utf8.decode s i).1 ∧ Utf8.valid ((Utf8.decode s i).1 : Int) = true ∧ 1 ≤ (Utf8.decode s i).2 ∧ i + (Utf8.decode s i).2 ≤ s.size ∧ ∀ (j : Nat) (hj : j < s.size), i ≤ j → j < i + (Utf8.decode s i).2 → 128 ≤ (s[j]'hj).toNat := by
  have e0 : s.get! (i + 0) = s[i]'h := get_bang s i h
  have cont : ∀ k, (decide (i + k < s.size) && (s.get! (i + k)).toNat / 64 == 2) = true → ∃ hk : i + k < s.size, 128 ≤ (s[i + k]'hk).toNat ∧ (s[i + k]'hk).toNat < 192 := by
    intro k hk
    simp at hk
    obtain ⟨h1, h2⟩ := hk
    rw [get_bang s _ h1] at h2
    exact ⟨h1, by omega, by omega⟩
  have one : 128 ≤ ((0xFFFD : Nat), 1).1 ∧ Utf8.valid (((0xFFFD : Nat), 1).1 : Int) = true ∧ 1 ≤ ((0xFFFD : Nat), 1).2 ∧ i + ((0xFFFD : Nat), 1).2 ≤ s.size ∧ ∀ (j : Nat) (hj : j < s.size), i ≤ j → j < i + ((0xFFFD : Nat), 1).2 → 128 ≤ (s[j]'hj).toNat := by
    refine ⟨by decide, by decide, by decide, by simp; omega, fun j hj h1 h2 => ?_⟩
    obtain rfl : j = i := by simp at h2; omega
    exact ha
  unfold Utf8.decode
  simp only [e0, Utf8.runeError]
  rw [if_neg (by omega)]
  split
  · rename_i hc
    rw [Bool.and_eq_true] at hc
    obtain ⟨hk1, c1, c2⟩ := cont 1 hc.2
    split
    · rename_i hge
      have hb : (s[i]'h).toNat < 256 := UInt8.toNat_lt _
      have hb5 : (s[i]'h).toNat / 32 = 6 := by simpa using hc.1
      refine ⟨hge, ?_, by simp, by simp; omega, fun j hj h1 h2 => ?_⟩
      · simp [Utf8.valid]; left; omega
      · simp at h2
        by_cases e : j = i
        · subst e; exact ha
        · obtain rfl : j = i + 1 := by omega
          exact c1
    · exact one
  · split
    · rename_i hc
      rw [Bool.and_eq_true, Bool.and_eq_true] at hc
      obtain ⟨hk1, c1, _⟩ := cont 1 hc.1.2
      obtain ⟨hk2, c2, _⟩ := cont 2 hc.2
      split
      · rename_i hge
        rw [Bool.and_eq_true] at hge
        refine ⟨by have := hge.1; simp at this; omega, hge.2, by simp, by simp; omega, fun j hj h1 h2 => ?_⟩
        simp at h2
        have : j = i ∨ j = i + 1 ∨ j = i + 2 := by omega
        rcases this with rfl | rfl | rfl
        · exact ha
        · exact c1
        · exact c2
      · exact one
    · split
      · rename_i hc
        rw [Bool.and_eq_true, Bool.and_eq_true, Bool.and_eq_true] at hc
        obtain ⟨hk1, c1, _⟩ := cont 1 hc.1.1.2
        obtain ⟨hk2, c2, _⟩ := cont 2 hc.1.2
        obtain ⟨hk3, c3, _⟩ := cont 3 hc.2
        split
        · rename_i hge
          rw [Bool.and_eq_true] at hge
          refine ⟨by have := hge.1; simp at this; omega, hge.2, by simp, by simp; omega, fun j hj h1 h2 => ?_⟩
          simp at h2
          have : j = i ∨ j = i + 1 ∨ j = i + 2 ∨ j = i + 3 := by omega
          rcases this with rfl | rfl | rfl | rfl
          · exact ha
          · exact c1
          · exact c2
          · exact c3
        · exact one
      · exact one
abbrev CH : ByteArray := ⟨#[0, 47]⟩
set_option maxHeartbeats 4000000 in
set_option maxRecDepth 100000 in
theorem idxrune_bad (w : World) : Calls Try.prog 35 #[.string CH, .int .i32 65533] w fun e w' => e = .returned (.int .i64 (-1)) ∧ Below w.heap.size w w' := by
  have n0 := fun ty => run_next_ascii (P := Try.prog) w CH 0 ty (by decide) (by decide)
  have n1 := fun ty => run_next_ascii (P := Try.prog) w CH 1 ty (by decide) (by decide)
  have n2 := fun ty => run_next_end (P := Try.prog) w CH 2 ty (by decide)
  rw [show ((CH[0]'(by decide)).toNat : Int) = 0 from rfl] at n0
  rw [show ((CH[1]'(by decide)).toNat : Int) = 47 from rfl] at n1
  go_enter Try.func35, Try.ntmps35
  go_wp2_with fail
  refine wp_loop_rounds 3 ?_
  rw [rounds_succ]
  go_wp2_with fail
  rw [rounds_succ]
  go_wp2_with fail
  rw [rounds_succ]
  go_wp2_with fail
  go_ret
  exact ⟨rfl, (Below.refl _ _).alloc (Nat.le_refl _) _⟩
theorem enc_hi (r : Int) (h : 128 ≤ r) (hv : Utf8.valid r = true) : ∃ (l : List UInt8) (x : UInt8), (Utf8.encode r).data.toList = l ++ [x] ∧ 128 ≤ x.toNat ∧ (l.length = 1 ∨ l.length = 2 ∨ l.length = 3) := by
  unfold Utf8.encode
  simp only [hv, if_true]
  rw [if_neg (by omega)]
  have hx : 128 ≤ (UInt8.ofNat (128 + r.toNat % 64)).toNat := by
    rw [UInt8.toNat_ofNat']; omega
  split
  · exact ⟨[_], _, rfl, hx, .inl rfl⟩
  · split
    · exact ⟨[_, _], _, rfl, hx, .inr (.inl rfl)⟩
    · exact ⟨[_, _, _], _, rfl, hx, .inr (.inr rfl)⟩
theorem vr_any (r : Int) (w : World) (h : Lib.validRune r = true) : Calls Try.prog 42 #[.int .i32 r] w fun e w' => e = .returned (.bool true) ∧ w = w' :=
  (Try.utf8_ValidRune r w).mono fun _ _ ⟨he, hw⟩ => ⟨by rw [he, h], hw.symm⟩
theorem ib_nil (s : ByteArray) (c : Int) (w : World) (hs : s.data.toList = []) : Calls Try.prog 41 #[.string s, .int .u8 c] w fun e w' => e = .returned (.int .i64 (-1)) ∧ w = w' :=
  (Try.strings_IndexByte s c w).mono fun _ _ ⟨he, hw⟩ => ⟨by rw [he, hs]; rfl, hw.symm⟩
set_option maxHeartbeats 8000000 in
set_option maxRecDepth 100000 in
theorem idxrune_hi (w : World) (r : Int) (h : 128 ≤ r) (h2 : r ≤ 1114111) (hv : Utf8.valid r = true) : Calls Try.prog 35 #[.string CH, .int .i32 r] w fun e w' => e = .returned (.int .i64 (-1)) ∧ Below w.heap.size w w' := by
  by_cases hb : r = 65533
  · subst hb; exact idxrune_bad w
  · have hrb : (r == 65533) = false := by simpa using hb
    have hvr : Lib.validRune r = true := by
      simp [Lib.validRune]
      simp [Utf8.valid] at hv
      omega
    obtain ⟨l, x, he, hx, hl⟩ := enc_hi r h hv
    have HV := Lib.hid hvr
    have HE := Lib.hid he
    clear hb hv he hvr
    go_enter Try.func35, Try.ntmps35
    go_wp2_with fail
    refine (vr_any r w HV.out).mono ?_
    rintro e w' ⟨rfl, rfl⟩
    obtain ⟨E, hE⟩ : ∃ E, E = Utf8.encode r := ⟨_, rfl⟩
    have hcv : ∀ w, (convert 21 9 (.int .i32 r)).run Try.prog w = .ok (.string E) w := by
      intro w
      rw [hE]
      simp [convert, run_underlying Try.underlying21, run_underlying Try.underlying9, Conv.intToString, go_sem]
    rw [← hE] at HE
    clear hE
    rcases hl with hl | hl
    · match l, hl with
      | [u], _ =>
        obtain rfl : E = ⟨#[u, x]⟩ := by
          obtain ⟨⟨d⟩⟩ := E
          have := HE.out
          simp at this
          rw [this]
        clear HE
        have hx1 : ((47 : Int) == (x.toNat : Int)) = false := by simp; omega
        have hx2 : ((47 : Int) != (x.toNat : Int)) = true := by simp; omega
        have e1 : ((CH[1]'(by decide)).toNat : Int) = 47 := rfl
        have e2 : ((⟨#[u, x]⟩ : ByteArray)[1]'(by simp [ByteArray.size])) = x := rfl
        go_wp2_with fail
        go_step3
        go_wp2_with fail
        refine wp_loop_rounds 1 ?_
        rw [rounds_succ]
        go_wp2_with fail
        go_step3
        go_wp2_with fail
        refine wp_region_parts (by kernel_rfl) (by kernel_rfl) ?_
        have hb0 : Below w.heap.size w w.drew := (Below.refl _ _).drew
        generalize w.drew = W at *
        apply regL_lq W.heap.size
        intro D hD hn'
        repeat (apply wpLQ_pin rfl rfl; intro K hK; go_big_quiet_op; go_big_quiet_on; apply And.intro rfl)
        apply wpLQ_nil (by simp)
        intro W1 hb1 _
        have HB1 := Lib.hid (bt hb0 hb1)
        clear hb0 hb1 hn' hD
        go_wp2_with fail
        have hw2 : IntKind.i64.wrap 2 = 2 := by decide
        refine wp_region_parts (by kernel_rfl) (by kernel_rfl) ?_
        have hb0 : Below W1.heap.size W1 W1.drew := (Below.refl _ _).drew
        generalize W1.drew = W2 at *
        apply regL_lq W2.heap.size
        intro D hD hn'
        repeat (apply wpLQ_pin rfl rfl; intro K hK; go_big_quiet_op; (first | go_big_quiet_on | go_big_quiet_call ((go_at_call 41; with_reducible exact Calls.bds _ (ib_nil ByteArray.empty _ _ rfl)))); apply And.intro rfl)
        apply wpLQ_nil (by simp)
        intro W3 hb1 _
        have HB3 := Lib.hid (bt HB1.out (bt hb0 hb1))
        clear hb0 hb1 hn' hD
        go_wp2_with fail
        repeat rw [Exit.noGoto_ret]
        go_wp2
        repeat rw [Exit.noGoto_ret]
        go_ret
        exact ⟨rfl, HB3.out⟩
    · have hsz : E.size = l.length + 1 := by rw [Lib.size_eq, HE.out]; simp
      have hs2 : 3 ≤ E.size := by omega
      have hs4 : E.size ≤ 4 := by omega
      clear hsz hl HE
      go_wp2_with fail
      go_step3
      go_wp2_with fail
      refine wp_loop_rounds 1 ?_
      rw [rounds_succ]
      go_wp2_with fail
      rw [Exit.noGoto_ret]
      go_ret
      exact ⟨rfl, Below.refl _ _⟩
theorem su_any (n : Int) (w : World) : Calls Try.prog 36 #[.int .i64 n] w fun e w' => e = .returned (.bool (decide (8 < n))) ∧ w = w' :=
  (Try.strings_shouldUseASCIISet n w).mono fun _ _ ⟨he, hw⟩ => ⟨he, hw.symm⟩
theorem ira_any (r : Nat) (w : World) (h : r < 128) : Calls Try.prog 35 #[.string CH, .int .i32 r] w fun e w' => e = .returned (.int .i64 (Lib.indexByte [0, 47] r.toUInt8)) ∧ w = w' :=
  (Try.strings_IndexRune_ascii CH r w (by omega) (by omega)).mono fun _ _ ⟨he, hw⟩ => ⟨by rw [he]; simp, hw.symm⟩
def ipos (w : World) (b : Nat) : Nat := match w.heap[b]? with
  | some (.stringIter _ p) => p
  | _ => 0
def AnI (w : World) (s : ByteArray) (b : Nat) (wr : World) : Prop := ∃ i : Nat, i ≤ s.size ∧ wr.heap[b]? = some (.stringIter s i) ∧ Lib.NoAny s.data.toList [0, 47] i ∧ Below w.heap.size w wr
theorem put_iter {W : World} {b : Nat} {o o' : Obj} (h : W.heap[b]? = some o) : (W.putObj b o').heap[b]? = some o' := World.putObj_heap_same (Array.getElem?_eq_some_iff.1 h).1
set_option maxHeartbeats 8000000 in
set_option maxRecDepth 100000 in
theorem idxany_short (w : World) (s : ByteArray) (h8 : s.size ≤ 8) : Calls Try.prog 32 #[.string s, .string CH] w fun e w' => e = .returned (.int .i64 (Lib.indexAny s.data.toList [0, 47])) ∧ Below w.heap.size w w' := by
  have h8z : decide ((8 : Int) < (s.size : Int)) = false := decide_eq_false (by omega)
  go_enter Try.func32, Try.ntmps32
  go_wp2_with fail
  refine (su_any _ w).mono ?_
  rintro e w' ⟨rfl, rfl⟩
  rw [h8z]
  go_wp2_with fail
  obtain ⟨b, hb⟩ : ∃ b, b = w.heap.size := ⟨_, rfl⟩
  have HB0 : Hid (Below w.heap.size w (w.iter s 0)) := Lib.hid ((Below.refl _ _).alloc (Nat.le_refl _) _)
  have HI0 : Hid ((w.iter s 0).heap[b]? = some (.stringIter s 0)) := Lib.hid (by rw [hb]; exact World.iter_heap w s 0)
  have hbw : w.heap.size ≤ b := by omega
  rw [← hb]
  generalize w.iter s 0 = W0 at *
  clear hb h8z
  go_loopw [9] (fun _ wr => AnI w s b wr) (fun _ wr => s.size - ipos wr b)
  case atStart => exact ⟨0, by omega, HI0.out, Lib.NoAny.zero _ _, HB0.out⟩
  case round =>
    obtain ⟨i, hi, hit, hno, hbl⟩ := hrel
    have HIT := Lib.hid hit
    have HNO := Lib.hid hno
    have HBL := Lib.hid hbl
    have hlb : b < wr.heap.size := (Array.getElem?_eq_some_iff.1 hit).1
    clear hno hbl
    by_cases hlt : i < s.size
    · have hnx := fun ty => run_next_at (P := Try.prog) wr b s i ty hit hlt
      clear hit
      obtain ⟨x, hx⟩ : ∃ x : UInt8, s[i]'hlt = x := ⟨_, rfl⟩
      have HX : Hid (s.data.toList[i]? = some x) := Lib.hid (by rw [← hx]; exact Lib.data_getElem? s i hlt)
      by_cases ha : x.toNat < 128
      · rw [decode_ascii s i hlt (by rw [hx]; exact ha), hx] at hnx
        simp only at hnx
        have HP : Hid ((wr.putObj b (.stringIter s (i + 1))).heap[b]? = some (.stringIter s (i + 1))) := Lib.hid (put_iter HIT.out)
        have HBP : Hid (Below w.heap.size w (wr.putObj b (.stringIter s (i + 1)))) := Lib.hid (Below.fr HBL.out ((Fr.refl (fun k => k = b) wr).put b _ rfl) HBL.out.size (fun k hk => by omega))
        generalize wr.putObj b (.stringIter s (i + 1)) = V at *
        have hcon := Lib.contains_iff_indexByte [0, 47] x
        have hback : (x.toNat).toUInt8 = x := by simp
        clear hx
        cases hin : ([0, 47] : List UInt8).contains x with
        | false =>
          rw [hin] at hcon
          have hlt2 : ¬ ((0 : Int) ≤ Lib.indexByte [0, 47] x) := of_decide_eq_false hcon.symm
          clear hcon
          go_wp2_with fail
          refine (ira_any x.toNat V ha).mono ?_
          rintro e w' ⟨rfl, rfl⟩
          rw [hback]
          have HNN := Lib.hid (HNO.out.succ HX.out hin)
          clear hnx hin hback
          go_wp2_with fail
          go_roundw
          case rel => exact ⟨i + 1, by omega, HP.out, HNN.out, HBP.out⟩
          case measure =>
            unfold ipos
            rw [HP.out, HIT.out]
            simp only []
            omega
        | true =>
          rw [hin] at hcon
          have hlt2 : (0 : Int) ≤ Lib.indexByte [0, 47] x := of_decide_eq_true hcon.symm
          clear hcon
          go_wp2_with fail
          refine (ira_any x.toNat V ha).mono ?_
          rintro e w' ⟨rfl, rfl⟩
          rw [hback]
          have HNN : Hid (Lib.indexAny s.data.toList [0, 47] = i) := Lib.hid (Lib.indexAny_hit HNO.out HX.out hin)
          clear hnx hin hback
          go_wp2_with fail
          go_ret
          exact ⟨by rw [HNN.out]; rfl, HBP.out⟩
      · obtain ⟨d1, d2, d3, d4, d5⟩ := decode_hi s i hlt (by rw [hx]; omega)
        have HNN : Hid (Lib.NoAny s.data.toList [0, 47] (i + (Utf8.decode s i).2)) := Lib.hid (by
          intro j y hj hy
          by_cases hji : j < i
          · exact HNO.out j y hji hy
          · have hjs : j < s.size := by omega
            have := d5 j hjs (by omega) hj
            rw [Lib.data_getElem? s j hjs] at hy
            cases hy
            have h0 : ¬ (s[j]'hjs = 0) := fun e => by rw [e] at this; simp at this
            have h47 : ¬ (s[j]'hjs = 47) := fun e => by rw [e] at this; simp at this
            simp [h0, h47])
        generalize Utf8.decode s i = dd at *
        obtain ⟨r, n⟩ := dd
        simp only at d1 d2 d3 d4 hnx HNN
        have hr2 : (r : Int) ≤ 1114111 := by
          simp [Utf8.valid] at d2
          omega
        have HD2 := Lib.hid d2
        have HP : Hid ((wr.putObj b (.stringIter s (i + n))).heap[b]? = some (.stringIter s (i + n))) := Lib.hid (put_iter HIT.out)
        have HBP : Hid (Below w.heap.size w (wr.putObj b (.stringIter s (i + n)))) := Lib.hid (Below.fr HBL.out ((Fr.refl (fun k => k = b) wr).put b _ rfl) HBL.out.size (fun k hk => by omega))
        generalize wr.putObj b (.stringIter s (i + n)) = V at *
        clear hx ha d5 d2
        go_wp2_with fail
        refine (idxrune_hi V r (by omega) hr2 HD2.out).mono ?_
        rintro e V2 ⟨rfl, hb2⟩
        have HP2 : Hid (V2.heap[b]? = some (.stringIter s (i + n))) := Lib.hid ((hb2.block b (Array.getElem?_eq_some_iff.1 HP.out).1).trans HP.out)
        have HBP2 := Lib.hid (HBP.out.trans (hb2.mono HBP.out.size))
        clear hnx hb2
        go_wp2_with fail
        go_roundw
        case rel => exact ⟨i + n, by omega, HP2.out, HNN.out, HBP2.out⟩
        case measure =>
          unfold ipos
          rw [HP2.out, HIT.out]
          simp only []
          omega
    · obtain rfl : i = s.size := by omega
      have hnx := fun ty => run_next_done (P := Try.prog) wr b s s.size ty hit hlt
      clear hit
      have HNN : Hid (Lib.indexAny s.data.toList [0, 47] = -1) := Lib.hid (Lib.indexAny_none (by rw [← Lib.size_eq]; exact HNO.out))
      go_wp2_with fail
      go_ret
      exact ⟨by rw [HNN.out]; rfl, HBL.out⟩
theorem zero73 (w : World) : (zeroValue 73).run Try.prog w = .ok (.agg (Array.replicate 256 (.bool false))) w := by kernel_rfl
theorem cany_any (w : World) (s : ByteArray) (hs : s.size < 4294967281) : Calls Try.prog 26 #[.string s, .string CH] w fun e w' => e = .returned (.bool (decide (0 ≤ Lib.indexAny s.data.toList [0, 47]))) ∧ Below w.heap.size w w' := by
  have H : Hid (Calls Try.prog 32 #[.string s, .string CH] w fun e w' => e = .returned (.int .i64 (Lib.indexAny s.data.toList [0, 47])) ∧ Below w.heap.size w w') := Lib.hid (by
    by_cases h8 : s.size ≤ 8
    · exact idxany_short w s h8
    · refine (Try.strings_IndexAny_long zero73 s CH w (by decide) (by omega) hs (by decide) ?_).mono ?_
      · intro j b hb
        match j, hb with
        | 0, hb => simp at hb; subst hb; decide
        | 1, hb => simp at hb; subst hb; decide
        | n + 2, hb => simp at hb
      · rintro e w' ⟨rfl, rfl⟩
        exact ⟨rfl, ((Below.refl _ _).alloc (Nat.le_refl _) _).alloc (by simp) _⟩)
  obtain ⟨z, hz⟩ : ∃ z, z = Lib.indexAny s.data.toList [0, 47] := ⟨_, rfl⟩
  rw [← hz] at H ⊢
  clear hz hs
  go_enter Try.func26, Try.ntmps26
  go_wp2_with fail
  refine H.out.mono ?_
  rintro e w1 ⟨rfl, hb⟩
  have HB := Lib.hid hb
  clear hb
  go_wp2
  go_ret
  exact ⟨rfl, HB.out⟩
end Go.Proofs.Ytdjahdipaffajaa
