/- awake returns true; closed instances of the contracts. -/
import Derived.Test.YtfpmoamecjenlaaWd
import Derived.Lib.SlBytesConst
namespace Go.Proofs.Ytfpmoamecjenlaa
open Go.RowKit

theorem parse_lit (s : ByteArray) (u e : Int) (w : World) (h : parseF s.data.toList = (u, e)) : Calls Try.prog 12 #[.string s] w fun x w' => x = .returned (.tuple #[.int .u64 u, .int .i64 e]) ∧ w = w' :=
  (parse_any s w).mono fun x w' ⟨h1, h2⟩ => ⟨by rw [h1, h], h2⟩
theorem parseR_lit (s : ByteArray) (u e : Int) (w : World) (h : parseF s.data.toList = (u, e)) : Calls Try.prog 13 #[.string s] w fun x w' => x = .returned (.tuple #[.int .u64 u, .int .i64 e]) ∧ w = w' :=
  (parseR_any s w).mono fun x w' ⟨h1, h2⟩ => ⟨by rw [h1, h], h2⟩
theorem sum_lit (s : ByteArray) (u : Int) (w : World) (hs : s.size ≤ maxLen) (h : sumL start s.data.toList = u) : Calls Try.prog 14 #[.string s] w fun x w' => x = .returned (.int .u64 u) ∧ w = w' := by
  subst h; exact sum_any s w hs
theorem text_lit (u : Int) (l : List UInt8) (w : World) (h0 : 0 ≤ u) (h1 : u < 18446744073709551616) (h : textL u = l) : Calls Try.prog 18 #[.int .u64 u] w fun e w' => e = .returned (.string ⟨l.toArray⟩) ∧ Below w.heap.size w w' := by
  subst h; exact text_any u h0 h1 w
theorem of_lit (a : Option Addr) (len cap : Nat) (ps : List ByteArray) (u : Int) (w : World) (h : SliceAt w a len (ps.map Value.string)) (hs : len ≤ maxLen) (hp : ∀ p ∈ ps, p.size ≤ maxLen) (hu : ofL start ps = u) :
    Calls Try.prog 16 #[.slice a len cap] w fun e w' => e = .returned (.int .u64 u) ∧ Below w.heap.size w w' := by
  subst hu; exact of_any a len cap ps w h hs hp

theorem below_set {a w : World} (h : Below a.heap.size a w) {p : Addr} (hp : a.heap.size ≤ p.block) (v : Value) : Below a.heap.size a (w.setCell p v) := h.setCell hp v

set_option maxHeartbeats 1000000 in
theorem awake_any (w : World) : Calls Try.prog 11 #[] w fun e w' => e = .returned (.bool true) ∧ Below w.heap.size w w' := by
  have kc := fun (w : World) (C : Array Value) (n c : Nat) => Lib.run_convert_bytes_const (P := Try.prog) w 35 5 C n c Try.underlying35 Try.underlying5
  go_enter Try.func11, Try.ntmps11
  go_wp2_with fail
  refine (new_any _).mono ?_
  rintro e w' ⟨rfl, rfl⟩
  go_wp2_with fail
  refine (hwrite_any _ start none 0 0 [] _ (by simp [go_sem, start]) (by simp [go_sem]) (SliceAt.nil _ _) (by simp [maxLen])).mono ?_
  rintro e w' ⟨rfl, rfl⟩
  go_wp2_with fail
  refine (hcopy_any _ start _ (by simp [go_sem, sumL])).mono ?_
  rintro e w' ⟨rfl, rfl⟩
  have f1 : RowAt ((w.alloc (.cells #[.int .u64 (sumL start [])] 48)).alloc (.cells #[.int .u64 start] 48)) w.heap.size 48 [.int .u64 start] := (RowAt.new w 48 [.int .u64 start]).alloc _
  have f2 : RowAt ((w.alloc (.cells #[.int .u64 (sumL start [])] 48)).alloc (.cells #[.int .u64 start] 48)) (w.heap.size + 1) 48 [.int .u64 start] := by simpa using (RowAt.new (w.alloc (.cells #[.int .u64 (sumL start [])] 48)) 48 [.int .u64 start])
  have hb : Below w.heap.size w ((w.alloc (.cells #[.int .u64 (sumL start [])] 48)).alloc (.cells #[.int .u64 start] 48)) := bA (bA (Below.refl _ _) _) _
  simp only [World.size_alloc]
  generalize (w.alloc (.cells #[.int .u64 (sumL start [])] 48)).alloc (.cells #[.int .u64 start] 48) = W at *
  go_wp2_with fail
  have f3 : SliceAt (W.alloc (.cells #[.int .u8 97] 5 (1, 2))) (some ⟨W.heap.size, 0, none⟩) 1 ([97].map B8) := by
    refine ⟨rfl, .inr ⟨_, 0, rfl, by simp, ?_⟩⟩
    intro i hi
    obtain rfl : i = 0 := by omega
    exact World.cell?_alloc_mark W #[.int .u8 97] 5 (1, 2) 0
  refine (hwrite_any w.heap.size start (some ⟨W.heap.size, 0, none⟩) 1 1 [97] _ ((f1.alloc _).cell 0) ((f1.alloc _).free 0) f3 (by simp [maxLen])).mono ?_
  rintro e w' ⟨rfl, rfl⟩
  have g1 := (f1.alloc (.cells #[.int .u8 97] 5 (1, 2))).set 0 (.int .u64 (sumL start [97]))
  have g2 := (f2.alloc (.cells #[.int .u8 97] 5 (1, 2))).other 0 (.int .u64 (sumL start [97])) (show w.heap.size + 1 ≠ w.heap.size by omega)
  have hb1 := below_set (bA hb (.cells #[.int .u8 97] 5 (1, 2))) (p := ⟨w.heap.size, 0, none⟩) (Nat.le_refl _) (.int .u64 (sumL start [97]))
  clear f1 f2 f3 hb
  generalize (W.alloc (.cells #[.int .u8 97] 5 (1, 2))).setCell ⟨w.heap.size, 0, none⟩ (.int .u64 (sumL start [97])) = W1 at *
  go_wp2_with fail
  refine (parse_lit _ 12638187200555641996 0 _ (by decide +kernel)).mono ?_
  rintro e w' ⟨rfl, rfl⟩
  go_wp2_with fail
  refine (sum_lit _ 12638187200555641996 _ (by decide) (by decide +kernel)).mono ?_
  rintro e w' ⟨rfl, rfl⟩
  go_wp2_with fail
  refine (text_lit _ [97, 102, 54, 51, 100, 99, 52, 99, 56, 54, 48, 49, 101, 99, 56, 99] _ (by decide) (by decide) (by decide +kernel)).mono ?_
  rintro e w2 ⟨rfl, hb2⟩
  have k1 := g1.next hb2
  have k2 := g2.next hb2
  have hb3 := bt hb1 hb2
  clear g1 g2 hb1 hb2
  go_wp2_with fail
  refine (hsum_any _ 12638187200555641996 _ (by rw [k1.cell 0]; kernel_rfl)).mono ?_
  rintro e w' ⟨rfl, rfl⟩
  go_wp2_with fail
  refine (sum_lit _ 12638187200555641996 _ (by decide) (by decide +kernel)).mono ?_
  rintro e w' ⟨rfl, rfl⟩
  go_wp2_with fail
  refine (hsum_any _ start _ (by rw [k2.cell 0]; rfl)).mono ?_
  rintro e w' ⟨rfl, rfl⟩
  go_wp2_with fail
  refine (sum_lit _ start _ (by decide) (by decide +kernel)).mono ?_
  rintro e w' ⟨rfl, rfl⟩
  go_wp2_with fail
  refine (hsum_any _ 12638187200555641996 _ (by rw [k1.cell 0]; kernel_rfl)).mono ?_
  rintro e w' ⟨rfl, rfl⟩
  go_wp2_with fail
  refine (of_lit _ 1 1 [⟨#[97]⟩] _ _ (SliceAt.row (RowAt.new _ 9 [.string ⟨#[97]⟩])) (by decide) (by decide) rfl).mono ?_
  rintro e w3 ⟨rfl, hb4⟩
  go_wp2_with fail
  refine (of_lit _ 1 1 [⟨#[98]⟩] _ _ (SliceAt.row (RowAt.new _ 9 [.string ⟨#[98]⟩])) (by decide) (by decide) rfl).mono ?_
  rintro e w4 ⟨rfl, hb5⟩
  have hb6 := btA (btA hb3 hb4) hb5
  have hne : (ofL start [⟨#[97]⟩] != ofL start [⟨#[98]⟩]) = true := by decide +kernel
  clear hb3 hb4 hb5 k1 k2
  go_wp2_with fail
  go_ret
  exact ⟨rfl, hb6⟩
end Go.Proofs.Ytfpmoamecjenlaa
