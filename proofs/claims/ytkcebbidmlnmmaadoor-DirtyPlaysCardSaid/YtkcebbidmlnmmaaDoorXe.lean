/- What lies beside a row of bytes; long; the buffer in DirtyReads. -/
import Derived.Test.YtkcebbidmlnmmaaDoorXd
import Derived.Test.YtkcebbidmlnmmaaDoorXo
import Derived.Test.YtkcebbidmlnmmaaDoorWn
namespace Go.Proofs.YtkcebbidmlnmmaaDoor
open Go.RowKit
/-- A buffer's blocks are of other types. -/
theorem Bf.avoid {W : World} {p : Nat} {L : List Wr} {S : Nat → Prop} (h : Bf W p L S) {g : Nat} {cur : Array Value} {t : TypeId} {fz : Nat × Nat} (hg : W.heap[g]? = some (.cells cur t fz)) (h1 : t ≠ 58) (h2 : t ≠ 61) : Bf W p L (fun i => S i ∧ i ≠ g) := by
  obtain ⟨⟨b, G, hb⟩, hu⟩ := h
  obtain ⟨F, hF, hk⟩ := hb.mr.map
  refine ⟨⟨b, G, hb.row, ⟨hb.mr.map, hb.mr.inj, ⟨hb.mr.sb, fun e => ?_⟩, fun k hk' => ⟨hb.mr.sg k hk', fun e => ?_⟩⟩, hb.ok, ⟨hb.sp, fun e => ?_⟩⟩, fun i hi => hu i hi.1⟩
  · obtain ⟨es, c, h3, _⟩ := hF
    rw [e, hg] at h3
    cases h3
  · rcases hk k with ⟨e', _⟩ | ⟨v, _, _, h3⟩
    · exact hk' e'
    · obtain ⟨_, _, _, _, cs, x, h5⟩ := h3.shape
      rw [e, hg] at h5
      simp at h5
      exact h1 h5.2.1
  · have h3 := hb.row
    unfold RowAt at h3
    rw [e, hg] at h3
    simp at h3
    exact h2 h3.2.1
/-- What stays, whatever is done to a row of bytes and whatever is made. -/
structure BySt (X : World → Prop) : Prop where
  nx : ∀ {W W' : World}, X W → Below W.heap.size W W' → X W'
  st : ∀ {W W' : World} {g : Nat} {cur : Array Value} {fz : Nat × Nat}, X W → W.heap[g]? = some (.cells cur 5 fz) → Fr (· = g) W W' → X W'
/-- The buffer, all of it made since B. -/
def XB (B p : Nat) (L : List Wr) (W : World) : Prop := ∃ S, Bf W p L S ∧ ∀ i, S i → B ≤ i
theorem xb_st (B p : Nat) (L : List Wr) : BySt (XB B p L) :=
  ⟨fun ⟨S, h1, h2⟩ hb => ⟨S, h1.next hb, h2⟩, fun ⟨S, h1, h2⟩ hg hf => ⟨_, (h1.avoid hg (by decide) (by decide)).fr hf (fun _ e x => x.2 e), fun i hi => h2 i hi.1⟩⟩
theorem BR.cur {W : World} {B : Nat} {v : Value} {l : List UInt8} (h : BR W B v l) : ∃ g cap cur fz, v = .slice (some ⟨g, 0, none⟩) l.length cap ∧ W.heap[g]? = some (.cells cur 5 fz) := by
  obtain ⟨g, cap, cur, fz, e, _, h2, _⟩ := h
  exact ⟨g, cap, cur, fz, e, h2⟩
theorem BR.frg {W W' : World} {B : Nat} {v : Value} {l : List UInt8} {M : Nat → Prop} (h : BR W B v l) (hf : Fr M W W') (hm : ∀ k, v.ownBlock = some k → ¬ M k) : BR W' B v l := by
  obtain ⟨g, cap, cur, fz, e, h1, h2, h3⟩ := h
  exact ⟨g, cap, cur, fz, e, h1, by rw [hf.block g (Array.getElem?_eq_some_iff.1 h2).1 (hm g (by rw [e]; rfl))]; exact h2, h3⟩
theorem push_st {X : World → Prop} (hX : BySt X) {wi : World} {B : Nat} {v : Value} {l : List UInt8} (hb : BR wi B v l) (hx : X wi) (hB : B ≤ wi.heap.size) (hl : l.length ≤ 200000) :
    ∃ A' c' w', (Builtin.append_ #[30, 30] 30 #[v, .slice (some ⟨wi.heap.size, 0, none⟩) 1 1]).run Tryd.prog (wi.alloc (.cells #[.int .u8 0] 5)) = .ok (.slice A' (l.length + 1) c') w' ∧ BR w' B (.slice A' (l.length + 1) c') (l ++ [0]) ∧ X w' ∧
      Below B wi w' ∧ ∀ q T r, RowAt wi q T r → T ≠ 5 → RowAt w' q T r := by
  have hal : Below wi.heap.size wi (wi.alloc (.cells #[.int .u8 0] 5)) := bA (Below.refl _ _) _
  have hb1 := hb.next hal
  obtain ⟨A', c', w', r1, b1, f1⟩ := br_push _ B v _ hb1 (by have := hal.size; omega) hl ⟨wi.heap.size, 0, none⟩ 1 0 (by
    rw [Addr.add_mid]
    exact (RowAt.new wi 5 [.int .u8 0]).cell 0)
  obtain ⟨g, cap, cur, fz, e, hg⟩ := hb1.cur
  refine ⟨A', c', w', r1, b1, hX.st (hX.nx hx hal) hg (f1.mono (fun i _ x => by rw [e] at x; cases x; rfl)), (hal.mono hB).trans (Fr.below f1 (by have := hal.size; omega) (fun k x => hb1.ge k x)), fun q T r hr hT => ?_⟩
  have hne := hb1.ne_row (hr.next hal) hT
  exact (hr.next hal).fr f1 (fun x => hne x)
theorem set_st {X : World → Prop} (hX : BySt X) {wi : World} {B g n cap : Nat} {l : List UInt8} (hb : BR wi B (.slice (some ⟨g, 0, none⟩) n cap) l) (hx : X wi) (i : Nat) (u : Value) : X (wi.setCell ⟨g, i, none⟩ u) := by
  obtain ⟨g', cap', cur, fz, e, hg⟩ := hb.cur
  cases e
  exact hX.st hx hg ((Fr.refl (· = g) wi).setCell rfl u)
/-- What DirtyReads' buffer, row of bytes and step go through in a write. -/
theorem write_x (w : World) (B p : Nat) (L : List Wr) (h : XB B p L w) (hB : B ≤ w.heap.size) (k a : Int) (t : ByteArray) (v : Value) (l : List UInt8) (hb : BR w B v l) (q : Nat) (r : List Value) (hr : RowAt w q 32 r) :
    Calls Tryd.prog 14 #[.pointer (some ⟨p, 0, none⟩), .int .i64 k, .int .i64 a, .string t] w fun e w' => e = .returned (.int .i64 (writeE L k a t)) ∧ XB B p (writeL L k a t) w' ∧ BR w' B v l ∧ RowAt w' q 32 r ∧ Below B w w' := by
  obtain ⟨S, h1, h2⟩ := h
  obtain ⟨g, cap, cur, fz, rfl, hg⟩ := hb.cur
  have hq := hr
  unfold RowAt at hq
  refine (write_f w p L _ ((h1.avoid hg (by decide) (by decide)).avoid hq (by decide) (by decide)) k a t).mono ?_
  rintro e w' ⟨rfl, S', g1, g2, g3⟩
  refine ⟨rfl, ⟨S', g1, fun i hi => ?_⟩, hb.frg g2 (fun k hk x => ?_), hr.fr g2 (fun x => x.2 rfl), g2.below hB (fun i x => h2 i x.1.1)⟩
  · rcases g3 i hi with x | x
    · exact h2 i x.1.1
    · omega
  · cases hk
    exact x.1.2 rfl
theorem over_x (w : World) (B p : Nat) (L : List Wr) (h : XB B p L w) (k : Int) (s : ByteArray) (hs : s.size ≤ 100000) :
    Calls Tryd.prog 13 #[.pointer (some ⟨p, 0, none⟩), .int .i64 k, .string s] w fun e w' => e = .returned (.string ⟨(overL (sub k L) s.data.toList).toArray⟩) ∧ Below w.heap.size w w' := by
  obtain ⟨S, h1, _⟩ := h
  exact over_f w p L S h1 k s hs
theorem size_x (w : World) (B p : Nat) (L : List Wr) (h : XB B p L w) (k n : Int) :
    Calls Tryd.prog 15 #[.pointer (some ⟨p, 0, none⟩), .int .i64 k, .int .i64 n] w fun e w' => e = .returned (.int .i64 (sizeL (sub k L) n)) ∧ Below w.heap.size w w' := by
  obtain ⟨S, h1, _⟩ := h
  exact size_f w p L S h1 k n
def sumT (l : List So) : Nat := (l.map fun s => s.t.size).sum
theorem sumT_take (l : List So) (j : Nat) (s : So) (h : l[j]? = some s) : sumT (l.take (j + 1)) = sumT (l.take j) + s.t.size := by
  rw [List.take_add_one, h]
  simp [sumT]
def LoI (w : World) (l : List So) (m : Nat) (n i : Value) (wr : World) : Prop := ∃ j : Nat, j ≤ m ∧ i = .int .i64 j ∧ n = .int .i64 (sumT (l.take j) : Int) ∧ sumT (l.take j) ≤ j * 40000 ∧ (∀ s ∈ l.take j, s.t.size ≤ 40000) ∧ wr = w
theorem longs_any (w : World) (A : Option Addr) (m c : Nat) (l : List So) (h : OpsAt w A m l) :
    Calls Tryd.prog 11 #[.slice A m c] w fun e w' => ∃ b : Bool, e = .returned (.bool b) ∧ w' = w ∧ (b = false → m ≤ 40 ∧ ∀ s ∈ l, s.t.size ≤ 40000) := by
  by_cases h40 : 40 < m
  · have g1 : decide ((m : Int) > 40) = true := by simp; omega
    clear h h40
    go_enter Tryd.func11, Tryd.ntmps11
    go_wp2_with fail
    all_goals refine bodyPost_ret (by simp [results, Tryd.results11, go_sem]; rfl) rfl ?_
    all_goals exact ⟨true, rfl, rfl, fun e => by cases e⟩
  · have g1 : decide ((m : Int) > 40) = false := by simp; omega
    have HO := Lib.hid h
    have HM := Lib.hid h.1
    have hm40 : m ≤ 40 := by omega
    clear h h40
    go_enter Tryd.func11, Tryd.ntmps11
    go_wp2_with fail
    go_loopw [3, 4] (fun n i wr => LoI w l m n i wr) (fun _ i _ => m - (intOf i).toNat)
    case atStart => exact ⟨0, by omega, rfl, rfl, Nat.zero_le _, by simp, rfl⟩
    case round =>
      obtain ⟨j, hj, rfl, rfl, hs, ha, hw⟩ := hrel
      rw [hw]
      have HA := Lib.hid ha
      have HS := Lib.hid hs
      clear ha hs hw wr
      by_cases hlt : j < m
      · obtain ⟨b1, o1, rfl, l1, hat⟩ := HO.out.get j hlt
        obtain ⟨s, hst⟩ : ∃ s, l[j]? = some s := ⟨l[j]'(by rw [HM.out]; exact hlt), List.getElem?_eq_getElem _⟩
        obtain ⟨_, _, _, d3⟩ := hat j s hst
        have hlt' : (j : Int) < (m : Int) := by omega
        have j0 : (0 : Int) ≤ (j : Int) := by omega
        have HT := Lib.hid (sumT_take l j s hst)
        have HST := Lib.hid hst
        clear hat hst
        by_cases hbig : 40000 < s.t.size
        · have g2 : decide ((s.t.size : Int) > 40000) = true := by simp; omega
          go_wp2_with fail
          all_goals refine bodyPost_ret (by simp [results, Tryd.results11, go_sem]; rfl) rfl ?_
          all_goals exact ⟨true, rfl, rfl, fun e => by cases e⟩
        · have g2 : decide ((s.t.size : Int) > 40000) = false := by simp; omega
          have e1 : IntKind.i64.wrap ((sumT (l.take j) : Int) + (s.t.size : Int)) = (sumT (l.take j) : Int) + (s.t.size : Int) := IntWalk.i64_in _ (by have := HS.out; omega)
          go_wp2_with fail
          go_roundw
          case rel =>
            refine ⟨j + 1, by omega, by go_num, by rw [HT.out]; simp, by rw [HT.out]; have := HS.out; omega, fun s' hs' => ?_, rfl⟩
            rw [List.take_add_one, HST.out] at hs'
            rcases List.mem_append.1 hs' with x | x
            · exact HA.out s' x
            · simp at x
              rw [x]; omega
          case measure => simp [intOf]; omega
      · obtain rfl : j = m := by omega
        go_wp2_with fail
        go_ret
        refine ⟨_, rfl, rfl, fun _ => ⟨hm40, fun s hs => HA.out s ?_⟩⟩
        rw [List.take_of_length_le (by rw [HM.out]; exact Nat.le_refl _)]
        exact hs
end Go.Proofs.YtkcebbidmlnmmaaDoor
