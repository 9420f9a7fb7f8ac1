/- A buffer by its writes, all its blocks in a set; awake: the examples. -/
import Derived.Test.YtkcebbidmlnmmaaDoorWi
import Derived.Test.YtkcebbidmlnmmaaDoorWk
namespace Go.Proofs.YtkcebbidmlnmmaaDoor
open Go.RowKit
/-- A buffer by its block and its writes: all its blocks are in S, which ends ahead of the heap's end. -/
structure Bf (W : World) (p : Nat) (L : List Wr) (S : Nat → Prop) : Prop where
  ex : ∃ b G, Bm W p b L G S
  up : ∀ i, S i → i < W.heap.size
/-- What a call may do to a buffer. -/
def BGo (w : World) (p : Nat) (S : Nat → Prop) (L' : List Wr) (w' : World) : Prop := ∃ S', Bf w' p L' S' ∧ Fr S w w' ∧ ∀ i, S' i → S i ∨ w.heap.size ≤ i
section
variable {W W' : World} {p b : Nat} {L : List Wr} {G : Int → Nat} {S S' M : Nat → Prop}
theorem Bf.of (h : Bm W p b L G S) : ∃ S', Bf W p L S' ∧ ∀ i, S' i → S i :=
  ⟨fun i => S i ∧ i < W.heap.size, ⟨⟨b, G, h.mono (fun _ hi hs => ⟨hs, hi⟩)⟩, fun _ h => h.2⟩, fun _ h => h.1⟩
theorem Bf.ok (h : Bf W p L S) : Ok L := by obtain ⟨⟨b, G, h⟩, _⟩ := h; exact h.ok
theorem Bf.sp (h : Bf W p L S) : S p := by obtain ⟨⟨b, G, h⟩, _⟩ := h; exact h.sp
theorem Bf.lt (h : Bf W p L S) : p < W.heap.size := h.up p h.sp
theorem Bf.fr (h : Bf W p L S) (hf : Fr M W W') (hm : ∀ i, M i → S i → False) : Bf W' p L S := by
  obtain ⟨⟨b, G, hb⟩, hu⟩ := h
  exact ⟨⟨b, G, hb.fr hf (fun i _ h1 h2 => hm i h1 h2)⟩, fun i hi => Nat.lt_of_lt_of_le (hu i hi) hf.size⟩
theorem Bf.next (h : Bf W p L S) (hb : Below W.heap.size W W') : Bf W' p L S := h.fr (M := fun _ => False) (Fr.of_below hb) (fun _ x _ => x.elim)
end
theorem new_f (w : World) : Calls Tryd.prog 12 #[] w fun e w' => e = .returned (.pointer (some ⟨w.heap.size + 1, 0, none⟩)) ∧ (∃ S, Bf w' (w.heap.size + 1) [] S ∧ ∀ i, S i → w.heap.size ≤ i) ∧ Below w.heap.size w w' := by
  refine (new_any w).mono ?_
  rintro e w' ⟨rfl, h, hb⟩
  exact ⟨rfl, Bf.of h, hb⟩
theorem write_f (w : World) (p : Nat) (L : List Wr) (S : Nat → Prop) (h : Bf w p L S) (k a : Int) (t : ByteArray) :
    Calls Tryd.prog 14 #[.pointer (some ⟨p, 0, none⟩), .int .i64 k, .int .i64 a, .string t] w fun e w' => e = .returned (.int .i64 (writeE L k a t)) ∧ BGo w p S (writeL L k a t) w' := by
  obtain ⟨⟨b, G, hb⟩, hu⟩ := h
  refine (write_any w p b L G S hb k a t).mono ?_
  rintro e w' ⟨rfl, G', hm, hf⟩
  obtain ⟨S', h1, h2⟩ := Bf.of hm
  exact ⟨rfl, S', h1, hf, h2⟩
/-- What Cut leaves. -/
def cutA (L : List Wr) (k n : Int) : List Wr := if n < 0 then L else cutL k n L
theorem cut_f (w : World) (p : Nat) (L : List Wr) (S : Nat → Prop) (h : Bf w p L S) (k n : Int) (hn1 : n ≤ 9223372036854775807) :
    Calls Tryd.prog 21 #[.pointer (some ⟨p, 0, none⟩), .int .i64 k, .int .i64 n] w fun e w' => e = .returned (.int .i64 (if n < 0 then 1 else 0)) ∧ BGo w p S (cutA L k n) w' := by
  obtain ⟨⟨b, G, hb⟩, hu⟩ := h
  refine (cut_any w p b L G S hb k n hn1).mono ?_
  rintro e w' ⟨rfl, G', hm, hf⟩
  obtain ⟨S', h1, h2⟩ := Bf.of hm
  exact ⟨rfl, S', h1, hf, h2⟩
theorem take_f (w : World) (p : Nat) (L : List Wr) (S : Nat → Prop) (h : Bf w p L S) (k : Int) :
    Calls Tryd.prog 22 #[.pointer (some ⟨p, 0, none⟩), .int .i64 k] w fun e w' => ∃ v' g', e = .returned v' ∧ RowV w' (sub k L) g' v' ∧ w.heap.size ≤ g' ∧ Bf w' p (outL k L) S ∧ Fr S w w' := by
  obtain ⟨⟨b, G, hb⟩, hu⟩ := h
  refine (take_any w p b L G S hb k).mono ?_
  rintro e w' ⟨v', g', rfl, h1, h2, h3, h4⟩
  exact ⟨v', g', rfl, h1, h2, ⟨⟨b, G, h3⟩, fun i hi => Nat.lt_of_lt_of_le (hu i hi) h4.size⟩, h4⟩
theorem over_f (w : World) (p : Nat) (L : List Wr) (S : Nat → Prop) (h : Bf w p L S) (k : Int) (s : ByteArray) (hs : s.size ≤ 100000) :
    Calls Tryd.prog 13 #[.pointer (some ⟨p, 0, none⟩), .int .i64 k, .string s] w fun e w' => e = .returned (.string ⟨(overL (sub k L) s.data.toList).toArray⟩) ∧ Below w.heap.size w w' := by
  obtain ⟨⟨b, G, hb⟩, _⟩ := h
  exact over_any w p b L G S hb k s hs
theorem size_f (w : World) (p : Nat) (L : List Wr) (S : Nat → Prop) (h : Bf w p L S) (k n : Int) :
    Calls Tryd.prog 15 #[.pointer (some ⟨p, 0, none⟩), .int .i64 k, .int .i64 n] w fun e w' => e = .returned (.int .i64 (sizeL (sub k L) n)) ∧ Below w.heap.size w w' := by
  obtain ⟨⟨b, G, hb⟩, _⟩ := h
  exact size_any w p b L G S hb k n
theorem held_f (w : World) (p : Nat) (L : List Wr) (S : Nat → Prop) (h : Bf w p L S) :
    Calls Tryd.prog 16 #[.pointer (some ⟨p, 0, none⟩)] w fun e w' => e = .returned (.int .i64 (tot L : Int)) ∧ Below w.heap.size w w' := by
  obtain ⟨⟨b, G, hb⟩, _⟩ := h
  refine (held_any w p b L G S hb).mono ?_
  rintro e w' ⟨rfl, rfl⟩
  exact ⟨rfl, Below.refl _ _⟩
/-- A buffer alone: all that was made since w0 began. -/
def Bl (w0 W : World) (p : Nat) (L : List Wr) : Prop := ∃ S, Bf W p L S ∧ (∀ i, S i → w0.heap.size ≤ i) ∧ Below w0.heap.size w0 W
section
variable {w0 W W' : World} {p : Nat} {L L' : List Wr} {S : Nat → Prop}
theorem Bl.below (h : Bl w0 W p L) : Below w0.heap.size w0 W := by obtain ⟨_, _, _, h⟩ := h; exact h
theorem Bl.go {S : Nat → Prop} (hs : ∀ i, S i → w0.heap.size ≤ i) (hb : Below w0.heap.size w0 W) (h : BGo W p S L' W') : Bl w0 W' p L' := by
  obtain ⟨S', h1, h2, h3⟩ := h
  refine ⟨S', h1, fun i hi => ?_, hb.trans (h2.below hb.size hs)⟩
  rcases h3 i hi with h | h
  · exact hs i h
  · exact Nat.le_trans hb.size h
theorem Bl.next (h : Bl w0 W p L) (hb : Below W.heap.size W W') : Bl w0 W' p L := by
  obtain ⟨S, h1, h2, h3⟩ := h
  exact ⟨S, h1.next hb, h2, bt h3 hb⟩
end
theorem write_b (w0 w : World) (p : Nat) (L : List Wr) (h : Bl w0 w p L) (k a : Int) (t : ByteArray) :
    Calls Tryd.prog 14 #[.pointer (some ⟨p, 0, none⟩), .int .i64 k, .int .i64 a, .string t] w fun e w' => e = .returned (.int .i64 (writeE L k a t)) ∧ Bl w0 w' p (writeL L k a t) := by
  obtain ⟨S, h1, h2, h3⟩ := h
  refine (write_f w p L S h1 k a t).mono ?_
  rintro e w' ⟨rfl, hg⟩
  exact ⟨rfl, Bl.go h2 h3 hg⟩
theorem cut_b (w0 w : World) (p : Nat) (L : List Wr) (h : Bl w0 w p L) (k n : Int) (hn1 : n ≤ 9223372036854775807) :
    Calls Tryd.prog 21 #[.pointer (some ⟨p, 0, none⟩), .int .i64 k, .int .i64 n] w fun e w' => e = .returned (.int .i64 (if n < 0 then 1 else 0)) ∧ Bl w0 w' p (cutA L k n) := by
  obtain ⟨S, h1, h2, h3⟩ := h
  refine (cut_f w p L S h1 k n hn1).mono ?_
  rintro e w' ⟨rfl, hg⟩
  exact ⟨rfl, Bl.go h2 h3 hg⟩
theorem take_b (w0 w : World) (p : Nat) (L : List Wr) (h : Bl w0 w p L) (k : Int) :
    Calls Tryd.prog 22 #[.pointer (some ⟨p, 0, none⟩), .int .i64 k] w fun e w' => ∃ v' g', e = .returned v' ∧ RowV w' (sub k L) g' v' ∧ w.heap.size ≤ g' ∧ Bl w0 w' p (outL k L) := by
  obtain ⟨S, h1, h2, h3⟩ := h
  refine (take_f w p L S h1 k).mono ?_
  rintro e w' ⟨v', g', rfl, h4, h5, h6, h7⟩
  exact ⟨v', g', rfl, h4, h5, S, h6, h2, h3.trans (h7.below h3.size h2)⟩
theorem over_b (w0 w : World) (p : Nat) (L : List Wr) (h : Bl w0 w p L) (k : Int) (s : ByteArray) (hs : s.size ≤ 100000) :
    Calls Tryd.prog 13 #[.pointer (some ⟨p, 0, none⟩), .int .i64 k, .string s] w fun e w' => e = .returned (.string ⟨(overL (sub k L) s.data.toList).toArray⟩) ∧ Bl w0 w' p L ∧ Below w.heap.size w w' := by
  obtain ⟨S, h1, h2, h3⟩ := h
  refine (over_f w p L S h1 k s hs).mono ?_
  rintro e w' ⟨rfl, hb⟩
  exact ⟨rfl, ⟨S, h1.next hb, h2, bt h3 hb⟩, hb⟩
theorem size_b (w0 w : World) (p : Nat) (L : List Wr) (h : Bl w0 w p L) (k n : Int) :
    Calls Tryd.prog 15 #[.pointer (some ⟨p, 0, none⟩), .int .i64 k, .int .i64 n] w fun e w' => e = .returned (.int .i64 (sizeL (sub k L) n)) ∧ Bl w0 w' p L ∧ Below w.heap.size w w' := by
  obtain ⟨S, h1, h2, h3⟩ := h
  refine (size_f w p L S h1 k n).mono ?_
  rintro e w' ⟨rfl, hb⟩
  exact ⟨rfl, ⟨S, h1.next hb, h2, bt h3 hb⟩, hb⟩
theorem held_b (w0 w : World) (p : Nat) (L : List Wr) (h : Bl w0 w p L) :
    Calls Tryd.prog 16 #[.pointer (some ⟨p, 0, none⟩)] w fun e w' => e = .returned (.int .i64 (tot L : Int)) ∧ Bl w0 w' p L ∧ Below w.heap.size w w' := by
  obtain ⟨S, h1, h2, h3⟩ := h
  refine (held_f w p L S h1).mono ?_
  rintro e w' ⟨rfl, hb⟩
  exact ⟨rfl, ⟨S, h1.next hb, h2, bt h3 hb⟩, hb⟩
def tAb : ByteArray := ⟨#[97, 98]⟩
def tX : ByteArray := ⟨#[88]⟩
def L1 : List Wr := [(5, 2, tAb)]
def L2 : List Wr := [(5, 2, tAb), (5, 3, tX)]
def L3 : List Wr := [(5, 2, ⟨#[97]⟩)]
theorem aw1 : writeE [] 5 2 tAb = 0 ∧ writeL [] 5 2 tAb = L1 := by decide
theorem aw2 : writeE L1 5 3 tX = 0 ∧ writeL L1 5 3 tX = L2 := by decide
theorem aw3 : overL (sub 5 L2) [104, 101, 108, 108, 111] = [104, 101, 97, 88, 111] ∧ overL (sub 5 L2) [] = [0, 0, 97, 88] ∧ sizeL (sub 5 L2) 1 = 4 := by decide
theorem aw4 : cutA L2 5 3 = L3 := by decide
theorem aw5 : overL (sub 5 L3) [104, 101, 108, 108, 111] = [104, 101, 97, 108, 111] ∧ sub 5 L3 = [(2, ⟨#[97]⟩)] ∧ tot (outL 5 L3) = 0 := by decide
theorem verf12 : verfV 1 ≠ verfV 2 := by
  unfold verfV
  rw [show (1 : Int) = ((1 : Nat) : Int) from rfl, show (2 : Int) = ((2 : Nat) : Int) from rfl, itoa_small, itoa_small, Lib.decDigits_one (by omega), Lib.decDigits_one (by omega)]
  decide +kernel
set_option maxHeartbeats 2000000 in
theorem awake_any (w : World) : Calls Tryd.prog 10 #[] w fun e w' => e = .returned (.bool true) ∧ Below w.heap.size w w' := by
  go_enter Tryd.func10, Tryd.ntmps10
  go_wp2_with fail
  refine (new_f w).mono ?_
  rintro e w1 ⟨rfl, ⟨S, h1, h2⟩, hb⟩
  have HB : Hid (Bl w w1 (w.heap.size + 1) []) := Lib.hid ⟨S, h1, h2, hb⟩
  generalize w.heap.size + 1 = p at *
  clear h1 h2 hb
  go_wp2_with fail
  have h := write_b w w1 p [] HB.out 5 2 tAb
  rw [aw1.1, aw1.2] at h
  refine h.mono ?_
  clear h
  rintro e w2 ⟨rfl, hb⟩
  have HB2 := Lib.hid hb
  clear hb HB
  go_wp2_with fail
  have h := write_b w w2 p L1 HB2.out 5 3 tX
  rw [aw2.1, aw2.2] at h
  refine h.mono ?_
  clear h
  rintro e w3 ⟨rfl, hb⟩
  have HB3 := Lib.hid hb
  clear hb HB2
  go_wp2_with fail
  have h := over_b w w3 p L2 HB3.out 5 ⟨#[104, 101, 108, 108, 111]⟩ (by decide)
  rw [show (⟨#[104, 101, 108, 108, 111]⟩ : ByteArray).data.toList = [104, 101, 108, 108, 111] from rfl, aw3.1] at h
  refine h.mono ?_
  clear h
  rintro e w4 ⟨rfl, hb, _⟩
  have HB4 := Lib.hid hb
  clear hb HB3
  go_wp2_with fail
  have h := over_b w w4 p L2 HB4.out 5 ⟨#[]⟩ (by decide)
  rw [show (⟨#[]⟩ : ByteArray).data.toList = [] from rfl, aw3.2.1] at h
  refine h.mono ?_
  clear h
  rintro e w5 ⟨rfl, hb, _⟩
  have HB5 := Lib.hid hb
  clear hb HB4
  go_wp2_with fail
  have h := size_b w w5 p L2 HB5.out 5 1
  rw [aw3.2.2] at h
  refine h.mono ?_
  clear h
  rintro e w6 ⟨rfl, hb, _⟩
  have HB6 := Lib.hid hb
  clear hb HB5
  go_wp2_with fail
  have h := cut_b w w6 p L2 HB6.out 5 3 (by omega)
  rw [aw4, if_neg (by decide)] at h
  refine h.mono ?_
  clear h
  rintro e w7 ⟨rfl, hb⟩
  have HB7 := Lib.hid hb
  clear hb HB6
  go_wp2_with fail
  have h := over_b w w7 p L3 HB7.out 5 ⟨#[104, 101, 108, 108, 111]⟩ (by decide)
  rw [show (⟨#[104, 101, 108, 108, 111]⟩ : ByteArray).data.toList = [104, 101, 108, 108, 111] from rfl, aw5.1] at h
  refine h.mono ?_
  clear h
  rintro e w8 ⟨rfl, hb, _⟩
  have HB8 := Lib.hid hb
  clear hb HB7
  go_wp2_with fail
  have h := take_b w w8 p L3 HB8.out 5
  rw [aw5.2.1] at h
  refine h.mono ?_
  clear h
  rintro e w9 ⟨v, g, rfl, hv, _, hb⟩
  have HB9 := Lib.hid hb
  obtain ⟨A, c, rfl, hat⟩ := hv.shape
  obtain ⟨rfl, hgl, hcap, d1, d2⟩ := hat 0 _ rfl
  simp only at d1 d2
  clear hb HB8 hat hv
  go_wp2_with fail
  have h := held_b w w9 p (outL 5 L3) HB9.out
  rw [aw5.2.2] at h
  refine h.mono ?_
  clear h
  rintro e w10 ⟨rfl, hb, _⟩
  have HB10 := Lib.hid hb
  clear hb HB9 d1 d2 hgl hcap
  go_wp2_with fail
  refine (verf_any w10 1 (by omega) (by omega) (itoa_of_small w10 1 (by omega))).mono ?_
  rintro e w11 ⟨rfl, hb⟩
  have HB11 := Lib.hid (HB10.out.next hb)
  clear hb HB10
  go_wp2_with fail
  refine (verf_any w11 2 (by omega) (by omega) (itoa_of_small w11 2 (by omega))).mono ?_
  rintro e w12 ⟨rfl, hb⟩
  have HB12 := Lib.hid (HB11.out.next hb)
  clear hb HB11
  have hne : (verfV 1 == verfV 2) = false := by rw [beq_eq_false_iff_ne]; exact verf12
  have hne2 : (verfV 1 != verfV 2) = true := by rw [bne, hne]; rfl
  generalize verfV 1 = x at *
  generalize verfV 2 = y at *
  go_wp2_with fail
  all_goals refine bodyPost_ret (by simp [results, Tryd.results10, go_sem]; rfl) rfl ?_
  all_goals exact ⟨rfl, HB12.out.below⟩
end Go.Proofs.YtkcebbidmlnmmaaDoor
