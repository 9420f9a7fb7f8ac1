/- DirtyNames: the walk. -/
import Derived.Test.YtkcebbidmlnmmaaDoorXi
import Derived.Test.YtkcebbidmlnmmaaDoorXj
import Derived.Test.YtkcebbidmlnmmaaDoorWn
namespace Go.Proofs.YtkcebbidmlnmmaaDoor
open Go.RowKit
theorem zrow (N : Nat) (h : N ≤ 200000) : ∃ (F : Array Value) (Z : ByteArray), Z.size = N ∧ (∀ w, (Instr.makeSlice 30 (.int .i64 (N : Int)) (.int .i64 (N : Int))).run Tryd.prog w = .ok (.slice (some ⟨w.heap.size, 0, none⟩) N N) (w.alloc (.cells F 5))) ∧
    ∀ w : World, (convert 30 9 (.slice (some ⟨w.heap.size, 0, none⟩) N N)).run Tryd.prog (w.alloc (.cells F 5)) = .ok (.string Z) (w.alloc (.cells F 5)) := by
  refine ⟨((List.replicate N (0 : UInt8)).map B8).toArray, ⟨(List.replicate N (0 : UInt8)).toArray⟩, by simp [ByteArray.size], fun w => make30 w N h, fun w => ?_⟩
  have hs := SliceAt.row (RowAt.new w 5 ((List.replicate N (0 : UInt8)).map B8))
  have hl : ((List.replicate N (0 : UInt8)).map B8).length = N := by simp
  rw [hl] at hs
  exact run_string_of_slice (P := Tryd.prog) _ 30 5 9 Tryd.underlying30 Tryd.underlying5 Tryd.underlying9 (some ⟨w.heap.size, 0, none⟩) N N (List.replicate N 0) hs
theorem w_arg {L : List Wr} {k a : Int} {t : ByteArray} (h : k < 1 ∨ a < 0) : writeE L k a t = 1 ∧ writeL L k a t = L := by
  have e : writeE L k a t = 1 := by unfold writeE; rw [if_pos h]
  exact ⟨e, by unfold writeL; rw [if_neg (by rw [e]; simp)]⟩
theorem w_large {L : List Wr} {k a : Int} {t : ByteArray} (h : 1 ≤ k ∧ 0 ≤ a) (h2 : 32768 < a ∨ 32768 - a < (t.size : Int)) : writeE L k a t = 40 ∧ writeL L k a t = L := by
  have e : writeE L k a t = 40 := by unfold writeE; rw [if_neg (by omega), if_pos h2]
  exact ⟨e, by unfold writeL; rw [if_neg (by rw [e]; simp)]⟩
theorem w_full {L : List Wr} {k a : Int} {t : ByteArray} (h : 1 ≤ k ∧ 0 ≤ a) (h2 : a + t.size ≤ 32768) (h3 : 65536 < tot L + t.size) : writeE L k a t = 3 ∧ writeL L k a t = L := by
  have e : writeE L k a t = 3 := by unfold writeE; rw [if_neg (by omega), if_neg (by omega), if_pos h3]
  exact ⟨e, by unfold writeL; rw [if_neg (by rw [e]; simp)]⟩
theorem w_ok {L : List Wr} {k a : Int} {t : ByteArray} (h : 1 ≤ k ∧ 0 ≤ a) (h2 : a + t.size ≤ 32768) (h3 : tot L + t.size ≤ 65536) : writeE L k a t = 0 ∧ (t.size ≠ 0 → writeL L k a t = L ++ [(k, a.toNat, t)]) ∧ (t.size = 0 → writeL L k a t = L) := by
  have e : writeE L k a t = 0 := writeE_zero.2 ⟨h.1, h.2, h2, h3⟩
  exact ⟨e, fun ht => by unfold writeL; rw [if_pos ⟨e, ht⟩], fun ht => by unfold writeL; rw [if_neg (fun x => x.2 ht)]⟩
def tA : ByteArray := ⟨#[97]⟩
theorem tA_size : tA.size = 1 := rfl
/-- The steps' answers. -/
theorem names_steps (Z Y : ByteArray) (hz : Z.size = 32768) (hy : Y.size = 32767) : ∃ L1 L2 L3 : List Wr,
    (writeE [] 0 0 tA = 1 ∧ writeL [] 0 0 tA = []) ∧ (writeE [] 1 (-1) tA = 1 ∧ writeL [] 1 (-1) tA = []) ∧ (writeE [] 1 32768 tA = 40 ∧ writeL [] 1 32768 tA = []) ∧
    (writeE [] 1 32767 tA = 0 ∧ writeL [] 1 32767 tA = L1) ∧ (writeE L1 1 9223372036854775807 tA = 40 ∧ writeL L1 1 9223372036854775807 tA = L1) ∧
    (writeE L1 2 0 Z = 0 ∧ writeL L1 2 0 Z = L2) ∧ (writeE L2 3 0 Z = 3 ∧ writeL L2 3 0 Z = L2) ∧ (writeE L2 3 0 Y = 0 ∧ writeL L2 3 0 Y = L3) ∧ (writeE L3 4 0 tA = 3 ∧ writeL L3 4 0 tA = L3) ∧
    (writeE L3 4 32768 ⟨#[]⟩ = 0 ∧ writeL L3 4 32768 ⟨#[]⟩ = L3) ∧ tot L3 = 65536 ∧ keysL L3 = [1, 2, 3] := by
  have t0 : tot ([] : List Wr) = 0 := rfl
  have t1 : tot [(1, 32767, tA)] = 1 := rfl
  have t2 : tot [(1, 32767, tA), (2, 0, Z)] = 32769 := by rw [tot_cons, tot_cons, t0]; simp only [hz, tA_size]
  have t3 : tot [(1, 32767, tA), (2, 0, Z), (3, 0, Y)] = 65536 := by rw [tot_cons, tot_cons, tot_cons, t0]; simp only [hz, hy, tA_size]
  refine ⟨[(1, 32767, tA)], [(1, 32767, tA), (2, 0, Z)], [(1, 32767, tA), (2, 0, Z), (3, 0, Y)], w_arg (by omega), w_arg (by omega), w_large (by omega) (by rw [tA_size]; omega), ?_, w_large (by omega) (by omega), ?_, w_full (by omega) (by omega) (by omega), ?_, w_full (by omega) (by rw [tA_size]; omega) (by rw [tA_size]; omega), ?_, t3, rfl⟩
  · obtain ⟨e, h, _⟩ := w_ok (L := []) (k := 1) (a := 32767) (t := tA) (by omega) (by rw [tA_size]; omega) (by rw [tA_size]; omega)
    exact ⟨e, h (by rw [tA_size]; omega)⟩
  · obtain ⟨e, h, _⟩ := w_ok (L := [(1, 32767, tA)]) (k := 2) (a := 0) (t := Z) (by omega) (by omega) (by omega)
    exact ⟨e, h (by omega)⟩
  · obtain ⟨e, h, _⟩ := w_ok (L := [(1, 32767, tA), (2, 0, Z)]) (k := 3) (a := 0) (t := Y) (by omega) (by omega) (by omega)
    exact ⟨e, h (by omega)⟩
  · have es : (⟨#[]⟩ : ByteArray).size = 0 := rfl
    obtain ⟨e, _, h⟩ := w_ok (L := [(1, 32767, tA), (2, 0, Z), (3, 0, Y)]) (k := 4) (a := 32768) (t := ⟨#[]⟩) (by omega) (by rw [es]; omega) (by rw [es]; omega)
    exact ⟨e, h es⟩
theorem who_b (w0 w : World) (p : Nat) (L : List Wr) (h : Bl w0 w p L) :
    Calls Tryd.prog 23 #[.pointer (some ⟨p, 0, none⟩)] w fun e w' => ∃ O v, e = .returned v ∧ OwnI w.heap.size O v w' ∧ So2 O (keysL L) ∧ Bl w0 w' p L ∧ Below w.heap.size w w' := by
  obtain ⟨S, h1, h2, h3⟩ := h
  refine (who_f w p L S h1).mono ?_
  rintro e w' ⟨O, v, rfl, g1, g2, g3⟩
  exact ⟨O, v, rfl, g1, g2, ⟨S, h1.next g3, h2, bt h3 g3⟩, g3⟩
theorem so2_123 : So2 [1, 2, 3] [1, 2, 3] := ⟨by decide, fun _ => Iff.rfl⟩
set_option maxHeartbeats 8000000 in
set_option maxRecDepth 20000 in
theorem names_law (w : World) : Calls Tryd.prog 7 #[] w fun e w' => e = .returned (.bool true) ∧ Below w.heap.size w w' := by
  obtain ⟨F, Z, hz, hm1, hc1⟩ := zrow 32768 (by omega)
  obtain ⟨F2, Y, hy, hm2, hc2⟩ := zrow 32767 (by omega)
  obtain ⟨L1, L2, L3, e1, e2, e3, e4, e5, e6, e7, e8, e9, e10, ht, hk⟩ := names_steps Z Y hz hy
  have hm1' : ∀ w : World, (Instr.makeSlice 30 (.int .i64 32768) (.int .i64 32768)).run Tryd.prog w = .ok (.slice (some ⟨w.heap.size, 0, none⟩) 32768 32768) (w.alloc (.cells F 5)) := hm1
  have hm2' : ∀ w : World, (Instr.makeSlice 30 (.int .i64 32767) (.int .i64 32767)).run Tryd.prog w = .ok (.slice (some ⟨w.heap.size, 0, none⟩) 32767 32767) (w.alloc (.cells F2 5)) := hm2
  have E1 := Lib.hid e1
  have E2 := Lib.hid e2
  have E3 := Lib.hid e3
  have E4 := Lib.hid e4
  have E5 := Lib.hid e5
  have E6 := Lib.hid e6
  have E7 := Lib.hid e7
  have E8 := Lib.hid e8
  have E9 := Lib.hid e9
  have E10 := Lib.hid e10
  have HT := Lib.hid ht
  have HK := Lib.hid hk
  clear hm1 hm2 e1 e2 e3 e4 e5 e6 e7 e8 e9 e10 ht hk hz hy
  go_enter Tryd.func7, Tryd.ntmps7
  go_wp2_with fail
  refine (new_f w).mono ?_
  rintro e w1 ⟨rfl, ⟨S, h1, h2⟩, hb⟩
  have HB0 : Hid (Bl w w1 (w.heap.size + 1) []) := Lib.hid ⟨S, h1, h2, hb⟩
  generalize w.heap.size + 1 = p at *
  clear h1 h2 hb
  go_wp2_with fail
  have h := write_b w w1 p [] HB0.out 0 0 tA
  rw [E1.out.1, E1.out.2] at h
  refine h.mono ?_
  clear h
  rintro e w2 ⟨rfl, hb⟩
  have HB1 := Lib.hid hb
  clear hb HB0
  go_wp2_with fail
  have h := write_b w w2 p [] HB1.out 1 (-1) tA
  rw [E2.out.1, E2.out.2] at h
  refine h.mono ?_
  clear h
  rintro e w3 ⟨rfl, hb⟩
  have HB2 := Lib.hid hb
  clear hb HB1
  go_wp2_with fail
  have h := write_b w w3 p [] HB2.out 1 32768 tA
  rw [E3.out.1, E3.out.2] at h
  refine h.mono ?_
  clear h
  rintro e w4 ⟨rfl, hb⟩
  have HB3 := Lib.hid hb
  clear hb HB2
  go_wp2_with fail
  have h := write_b w w4 p [] HB3.out 1 32767 tA
  rw [E4.out.1, E4.out.2] at h
  refine h.mono ?_
  clear h
  rintro e w5 ⟨rfl, hb⟩
  have HB4 := Lib.hid hb
  clear hb HB3
  go_wp2_with fail
  have h := write_b w w5 p L1 HB4.out 1 9223372036854775807 tA
  rw [E5.out.1, E5.out.2] at h
  refine h.mono ?_
  clear h
  rintro e w6 ⟨rfl, hb⟩
  have HB5 := Lib.hid hb
  clear hb HB4
  go_wp2_with fail
  have h := cut_b w w6 p L1 HB5.out 1 (-1) (by omega)
  rw [if_pos (by omega), show cutA L1 1 (-1) = L1 from rfl] at h
  refine h.mono ?_
  clear h
  rintro e w7 ⟨rfl, hb⟩
  have HB6 := Lib.hid hb
  clear hb HB5
  go_wp2_with fail
  have hal : Below w7.heap.size w7 (w7.alloc (.cells F 5)) := bA (Below.refl _ _) _
  have HBa := Lib.hid (HB6.out.next hal)
  clear hal HB6
  have HB6 := HBa
  clear HBa
  have h := write_b w (w7.alloc (.cells F 5)) p L1 HB6.out 2 0 Z
  rw [E6.out.1, E6.out.2] at h
  refine h.mono ?_
  clear h
  rintro e w8 ⟨rfl, hb⟩
  have HB7 := Lib.hid hb
  clear hb HB6
  go_wp2_with fail
  have hal : Below w8.heap.size w8 (w8.alloc (.cells F 5)) := bA (Below.refl _ _) _
  have HBa := Lib.hid (HB7.out.next hal)
  clear hal HB7
  have HB7 := HBa
  clear HBa
  have h := write_b w (w8.alloc (.cells F 5)) p L2 HB7.out 3 0 Z
  rw [E7.out.1, E7.out.2] at h
  refine h.mono ?_
  clear h
  rintro e w9 ⟨rfl, hb⟩
  have HB8 := Lib.hid hb
  clear hb HB7
  go_wp2_with fail
  have hal : Below w9.heap.size w9 (w9.alloc (.cells F2 5)) := bA (Below.refl _ _) _
  have HBa := Lib.hid (HB8.out.next hal)
  clear hal HB8
  have HB8 := HBa
  clear HBa
  have h := write_b w (w9.alloc (.cells F2 5)) p L2 HB8.out 3 0 Y
  rw [E8.out.1, E8.out.2] at h
  refine h.mono ?_
  clear h
  rintro e w10 ⟨rfl, hb⟩
  have HB9 := Lib.hid hb
  clear hb HB8
  go_wp2_with fail
  have h := write_b w w10 p L3 HB9.out 4 0 tA
  rw [E9.out.1, E9.out.2] at h
  refine h.mono ?_
  clear h
  rintro e w11 ⟨rfl, hb⟩
  have HB10 := Lib.hid hb
  clear hb HB9
  go_wp2_with fail
  have h := write_b w w11 p L3 HB10.out 4 32768 ⟨#[]⟩
  rw [E10.out.1, E10.out.2] at h
  refine h.mono ?_
  clear h
  rintro e w12 ⟨rfl, hb⟩
  have HB11 := Lib.hid hb
  clear hb HB10
  go_wp2_with fail
  refine (write_nil w12 1 0 tA).mono ?_
  rintro e wx ⟨rfl, hwx⟩
  rw [hwx]
  clear hwx wx
  go_wp2_with fail
  refine (cut_nil w12 1 0).mono ?_
  rintro e wx ⟨rfl, hwx⟩
  rw [hwx]
  clear hwx wx
  go_wp2_with fail
  refine (take_nil w12 1).mono ?_
  rintro e wx ⟨rfl, hwx⟩
  rw [hwx]
  clear hwx wx
  go_wp2_with fail
  refine (over_nil w12 1 _).mono ?_
  rintro e wx ⟨rfl, hwx⟩
  rw [hwx]
  clear hwx wx
  go_wp2_with fail
  refine (size_nil w12 1 9).mono ?_
  rintro e wx ⟨rfl, hwx⟩
  rw [hwx]
  clear hwx wx
  go_wp2_with fail
  refine (held_nil w12).mono ?_
  rintro e wx ⟨rfl, hwx⟩
  rw [hwx]
  clear hwx wx
  go_wp2_with fail
  refine (who_nil w12).mono ?_
  rintro e wx ⟨rfl, hwx⟩
  rw [hwx]
  clear hwx wx
  go_wp2_with fail
  refine (copy_nil w12).mono ?_
  rintro e wx ⟨rfl, hwx⟩
  rw [hwx]
  clear hwx wx
  go_wp2_with fail
  have h := held_b w w12 p L3 HB11.out
  rw [HT.out] at h
  refine h.mono ?_
  clear h
  rintro e w13 ⟨rfl, hb, _⟩
  have HB12 := Lib.hid hb
  clear hb HB11
  go_wp2_with fail
  refine (who_b w w13 p L3 HB12.out).mono ?_
  rintro e w14 ⟨O, v, rfl, ho, hso, hb, _⟩
  rw [HK.out] at hso
  obtain rfl := so2_unique hso so2_123
  have HB13 := Lib.hid hb
  have HO := Lib.hid ho
  clear ho hso hb HB12
  go_wp2_with fail
  have hal : Below w14.heap.size w14 (w14.alloc (.cells #[.int .i64 1, .int .i64 2, .int .i64 3] 3)) := bA (Below.refl _ _) _
  have h := same_any (w14.alloc (.cells #[.int .i64 1, .int .i64 2, .int .i64 3] 3)) [1, 2, 3] [1, 2, 3] v (.slice (some ⟨w14.heap.size, 0, none⟩) 3 3) (HO.out.next hal).slice ⟨_, 3, rfl, SliceAt.row (RowAt.new w14 3 [.int .i64 1, .int .i64 2, .int .i64 3])⟩ (by simp)
  rw [show decide (([1, 2, 3] : List Int) = [1, 2, 3]) = true by decide] at h
  refine h.mono ?_
  clear h
  rintro e w15 ⟨rfl, hb⟩
  have HB15 := Lib.hid (bt (bt HB13.out.below hal) hb)
  clear hb hal HB13 HO
  go_wp2_with fail
  refine (awake_any w15).mono ?_
  rintro e w16 ⟨rfl, hb⟩
  go_wp2_with fail
  all_goals refine bodyPost_ret (by simp [results, Tryd.results7, go_sem]; rfl) rfl ?_
  all_goals exact ⟨rfl, bt HB15.out hb⟩
end Go.Proofs.YtkcebbidmlnmmaaDoor
