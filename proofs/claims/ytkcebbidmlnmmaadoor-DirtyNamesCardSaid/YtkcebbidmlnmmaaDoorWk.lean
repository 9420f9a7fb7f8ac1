/- The boot's verifier, by the program and by the document. -/
import Derived.Test.YtkcebbidmlnmmaaDoorWj
namespace Go.Proofs.YtkcebbidmlnmmaaDoor
open Go.RowKit
theorem itoa_of_small (w : World) (i : Nat) (hi : i < 100) : Calls Tryd.prog 26 #[.int .i64 (i : Int)] w fun e w' => e = .returned (.string ⟨(Lib.itoa (i : Int)).toArray⟩) ∧ Below w.heap.size w w' := by
  rw [itoa_small]
  refine (Tryd.strconv_Itoa_small i hi w).mono ?_
  rintro e w' ⟨rfl, rfl⟩
  exact ⟨rfl, Below.refl _ _⟩
theorem parts_ok (n : Int) (h0 : -9223372036854775808 ≤ n) (h1 : n ≤ 9223372036854775807) : ∀ p ∈ [(⟨#[106, 101, 116, 116, 121]⟩ : ByteArray), ⟨(Lib.itoa n).toArray⟩], p.size ≤ maxLen := by
  have := Lib.itoa_length_le n h0 h1
  intro p hp
  rcases List.mem_cons.1 hp with rfl | hp
  · decide
  · rw [List.mem_singleton.1 hp]
    unfold maxLen
    simp only [ByteArray.size, List.size_toArray]
    omega
set_option maxRecDepth 20000 in
theorem verf_any (w : World) (n : Int) (h0 : -9223372036854775808 ≤ n) (h1 : n ≤ 9223372036854775807) (hi : Calls Tryd.prog 26 #[.int .i64 n] w fun e w' => e = .returned (.string ⟨(Lib.itoa n).toArray⟩) ∧ Below w.heap.size w w') :
    Calls Tryd.prog 8 #[.int .i64 n] w fun e w' => e = .returned (.int .u64 (verfV n)) ∧ Below w.heap.size w w' := by
  have HP := Lib.hid (parts_ok n h0 h1)
  have HI := Lib.hid hi
  clear hi h0 h1
  go_enter Tryd.func8, Tryd.ntmps8
  go_wp2_with fail
  refine HI.out.mono ?_
  rintro e w1 ⟨rfl, hb⟩
  have HB := Lib.hid hb
  have HO := Lib.hid (of_any (some ⟨w1.heap.size, 0, none⟩) 2 2 _ _ (SliceAt.row (RowAt.new w1 9 [.string ⟨#[106, 101, 116, 116, 121]⟩, .string ⟨(Lib.itoa n).toArray⟩])) (by unfold maxLen; omega) HP.out)
  clear hb
  go_wp2_with fail
  refine HO.out.mono ?_
  rintro e w2 ⟨rfl, hb2⟩
  go_wp2_with fail
  go_ret
  exact ⟨rfl, btA HB.out hb2⟩
set_option maxRecDepth 20000 in
theorem rverf_any (w : World) (n : Int) (h0 : -9223372036854775808 ≤ n) (h1 : n ≤ 9223372036854775807) :
    Calls Tryd.prog 9 #[.int .i64 n] w fun e w' => e = .returned (.int .u64 (verfV n)) ∧ Below w.heap.size w w' := by
  have HP := Lib.hid (parts_ok n h0 h1)
  have HI := Lib.hid (digits_any n h0 h1 w)
  clear h0 h1
  go_enter Tryd.func9, Tryd.ntmps9
  go_wp2_with fail
  refine HI.out.mono ?_
  rintro e w1 ⟨rfl, hb⟩
  have HB := Lib.hid hb
  have HO := Lib.hid (ofR_any (some ⟨w1.heap.size, 0, none⟩) 2 2 _ _ (SliceAt.row (RowAt.new w1 9 [.string ⟨#[106, 101, 116, 116, 121]⟩, .string ⟨(Lib.itoa n).toArray⟩])) (by unfold maxLen; omega) HP.out)
  clear hb
  go_wp2_with fail
  refine HO.out.mono ?_
  rintro e w2 ⟨rfl, hb2⟩
  go_wp2_with fail
  go_ret
  exact ⟨rfl, btA HB.out hb2⟩
end Go.Proofs.YtkcebbidmlnmmaaDoor
