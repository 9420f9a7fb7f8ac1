/- DigestByte, DigestParts walked: true at every input. -/
import Derived.Test.YtfpmoamecjenlaaLa
namespace Go.Proofs.Ytfpmoamecjenlaa
open Go.RowKit
set_option linter.unusedVariables false

theorem one_conv_at (c : UInt8) (w : World) (n : Nat) (hn : n = w.heap.size) : (convert 35 9 (.slice (some ⟨n, 0, none⟩) 1 1)).run Try.prog (w.alloc (.cells #[.int .u8 c.toNat] 5)) = .ok (.string ⟨#[c]⟩) (w.alloc (.cells #[.int .u8 c.toNat] 5)) := by
  subst hn; exact one_conv c w

theorem cat_size (p q : ByteArray) (a : UInt8) (h : p.size ≤ 5000) (h' : q.size ≤ 5000) : (p ++ ⟨#[a]⟩ ++ q).size ≤ maxLen := by
  rw [ByteArray.size_append, ByteArray.size_append]
  have : (⟨#[a]⟩ : ByteArray).size = 1 := rfl
  unfold maxLen; omega

set_option maxHeartbeats 1000000 in
theorem digestByte_any (p : ByteArray) (a b : UInt8) (q : ByteArray) (w : World) (hp : p.size ≤ maxLen) (hq : q.size ≤ maxLen) :
    Calls Try.prog 6 #[.string p, .int .u8 a.toNat, .int .u8 b.toNat, .string q] w fun e w' => e = .returned (.bool true) ∧ Below w.heap.size w w' := by
  have hp2 : p.size ≤ 9223372036854775807 := hp
  have hq2 : q.size ≤ 9223372036854775807 := hq
  clear hp hq
  have hcases : 5000 < p.size ∨ (p.size ≤ 5000 ∧ 5000 < q.size) ∨ (p.size ≤ 5000 ∧ q.size ≤ 5000) := by omega
  rcases hcases with h | ⟨h, h'⟩ | ⟨h, h'⟩
  · have d1 : decide ((5000 : Int) < (p.size : Int)) = true := by simp; omega
    go_enter Try.func6, Try.ntmps6
    go_wp2_with fail
    refine (awake_any _).mono ?_
    rintro e w1 ⟨rfl, hb⟩
    go_wp2_with fail
    go_ret
    exact ⟨rfl, hb⟩
  · have d1 : decide ((5000 : Int) < (p.size : Int)) = false := by simp; omega
    have d2 : decide ((5000 : Int) < (q.size : Int)) = true := by simp; omega
    go_enter Try.func6, Try.ntmps6
    go_wp2_with fail
    refine (awake_any _).mono ?_
    rintro e w1 ⟨rfl, hb⟩
    go_wp2_with fail
    go_ret
    exact ⟨rfl, hb⟩
  · have d1 : decide ((5000 : Int) < (p.size : Int)) = false := by simp; omega
    have d2 : decide ((5000 : Int) < (q.size : Int)) = false := by simp; omega
    have oc := one_conv_at
    go_enter Try.func6, Try.ntmps6
    go_wp2_with fail
    refine (awake_any _).mono ?_
    rintro e w1 ⟨rfl, hb⟩
    go_wp2_with fail
    refine (sum_any _ _ (cat_size p q _ h h')).mono ?_
    rintro _ w' ⟨rfl, rfl⟩
    have hb2 := bA hb (.cells #[.int .u8 a.toNat] 5)
    generalize w1.alloc (.cells #[.int .u8 a.toNat] 5) = W at *
    go_wp2_with fail
    refine (sum_any _ _ (cat_size p q _ h h')).mono ?_
    rintro _ w' ⟨rfl, rfl⟩
    have hon := byte_iff p.data.toList a b q.data.toList
    have hab : (((a.toNat : Nat) : Int) == ((b.toNat : Nat) : Int)) = (a == b) := by
      rw [Bool.eq_iff_iff]; simp only [beq_iff_eq]
      constructor
      · intro h; exact UInt8.toNat_inj.1 (by exact_mod_cast h)
      · intro h; rw [h]
    simp only [ByteArray.data_append, Array.toList_append, List.append_assoc, List.cons_append, List.nil_append]
    go_wp2_with fail
    go_ret
    exact ⟨rfl, bA hb2 _⟩

theorem take_drop_sum (l : List UInt8) (x y : Nat) (h : x ≤ y) : sumL (sumL start (l.take x)) ((l.take y).drop x) = sumL start (l.take y) := by
  rw [← sumL_append]
  congr 1
  have e : l.take x = (l.take y).take x := by rw [List.take_take, Nat.min_eq_left h]
  rw [e, List.take_append_drop]

theorem conv_part {w : World} {b off len cap : Nat} {l : List UInt8} (h : SliceAt w (some ⟨b, off, none⟩) len (l.map B8)) (n : Nat) (hn : n ≤ len) :
    (convert 35 9 (.slice (some ⟨b, off, none⟩) n cap)).run Try.prog w = .ok (.string ⟨(l.take n).toArray⟩) w := by
  have := SliceAt.part h 0 n (Nat.zero_le _) hn
  rw [List.drop_zero, Nat.add_zero, Nat.sub_zero, ← List.map_take] at this
  exact run_string_of_slice (P := Try.prog) w 35 5 9 Try.underlying35 Try.underlying5 Try.underlying9 _ n cap (l.take n) this


set_option maxRecDepth 100000 in
set_option maxHeartbeats 2000000 in
theorem digestParts_main (b off len cap : Nat) (l : List UInt8) (ca : Option Addr) (clen ccap : Nat) (cs : List UInt8) (w : World) (h : SliceAt w (some ⟨b, off, none⟩) len (l.map B8)) (h0 : 0 < len) (hl5 : len ≤ 5000) (hcap : len ≤ cap) (hcap2 : cap ≤ maxLen)
    (hc : SliceAt w ca clen (cs.map B8)) (hcl : clen ≤ maxLen) :
    Calls Try.prog 5 #[.slice (some ⟨b, off, none⟩) len cap, .slice ca clen ccap] w fun e w' => e = .returned (.bool true) ∧ Below w.heap.size w w' := by
  unfold maxLen at hcap2 hcl
  have HR := Lib.hid h
  have HC := Lib.hid hc
  clear h hc
  have d1 : decide ((5000 : Int) < (len : Int)) = false := by simp; omega
  go_enter Try.func5, Try.ntmps5
  go_wp2_with fail
  refine (awake_any _).mono ?_
  rintro e w1 ⟨rfl, hb1⟩
  go_wp2_with fail
  refine (new_any _).mono ?_
  rintro e w' ⟨rfl, rfl⟩
  have r1 : RowAt (w1.alloc (.cells #[.int .u64 start] 48)) w1.heap.size 48 [.int .u64 (sumL start (l.take 0))] := RowAt.new w1 48 [.int .u64 start]
  have hb2 := bA hb1 (.cells #[.int .u64 start] 48)
  have hH : w.heap.size ≤ w1.heap.size := hb1.size
  obtain ⟨H, hHe⟩ : ∃ H, H = w1.heap.size := ⟨_, rfl⟩
  rw [← hHe] at r1 hH ⊢
  generalize w1.alloc (.cells #[.int .u64 start] 48) = W at *
  clear hb1 hHe
  have HB2 := Lib.hid hb2
  have HR1 := Lib.hid r1
  clear hb2 r1
  go_wp2_with fail
  go_loopw [6, 7] (fun x i wr => ∃ k t : Nat, k ≤ clen ∧ t ≤ len ∧ i = .int .i64 k ∧ x = .int .i64 t ∧ RowAt wr H 48 [.int .u64 (sumL start (l.take t))] ∧ Below w.heap.size w wr) (fun _ i _ => clen - (intOf i).toNat)
  case atStart => exact ⟨0, 0, Nat.zero_le _, Nat.zero_le _, rfl, rfl, HR1.out, HB2.out⟩
  case round =>
    obtain ⟨k, t, hk, ht, rfl, rfl, hr, hb⟩ := hrel
    have HB := Lib.hid hb
    by_cases hgo : k < clen ∧ t < len ∧ k < 200
    · obtain ⟨g1, g2, g3⟩ := hgo
      have i1 : (k : Int) < (clen : Int) := by omega
      have i2 : (t : Int) < (len : Int) := by omega
      have g2' := g2
      have i3 : (k : Int) < 200 := by omega
      obtain ⟨cb, coff, rfl, hcbs, hccell⟩ := HC.out.get k g1
      have hkl : k < cs.length := by have := HC.out.1; simp at this; omega
      obtain ⟨c, hce⟩ : ∃ c, c = cs[k] := ⟨_, rfl⟩
      have hck : wr.cell? ⟨cb, coff + k, none⟩ = some (.int .u8 c.toNat) := by rw [hb.cell hcbs, hccell, hce]; simp [hkl, B8]
      have hc256 : c.toNat < 256 := c.toNat_lt
      obtain ⟨t2, ht2, hte⟩ : ∃ t2 : Nat, (t ≤ t2 ∧ t2 ≤ len) ∧ (if (len : Int) < (t : Int) + (c.toNat : Int) then (len : Int) else (t : Int) + (c.toNat : Int)) = (t2 : Int) := by
        by_cases hh : len < t + c.toNat
        · exact ⟨len, by omega, by rw [if_pos (by omega)]⟩
        · exact ⟨t + c.toNat, by omega, by rw [if_neg (by omega)]; omega⟩
      have ht2a := ht2.1
      have ht2b := ht2.2
      clear ht2 hccell hce hkl hb
      go_wp2_with fail
      refine (hcopy_any H (sumL start (l.take t)) _ (hr.cell 0)).mono ?_
      rintro e w' ⟨rfl, rfl⟩
      have q1 := hr.alloc (.cells #[.int .u64 (sumL start (l.take t))] 48)
      have q2 : RowAt (wr.alloc (.cells #[.int .u64 (sumL start (l.take t))] 48)) wr.heap.size 48 [.int .u64 (sumL start (l.take t))] := RowAt.new wr 48 [.int .u64 (sumL start (l.take t))]
      have hne : wr.heap.size ≠ H := by have := hr.lt; omega
      have hb3 := bA HB.out (.cells #[.int .u64 (sumL start (l.take t))] 48)
      obtain ⟨C, hCe⟩ : ∃ C, C = wr.heap.size := ⟨_, rfl⟩
      rw [← hCe] at q2 hne ⊢
      generalize wr.alloc (.cells #[.int .u64 (sumL start (l.take t))] 48) = W1 at *
      clear hCe hr hck
      have Q1 := Lib.hid q1
      have Q2 := Lib.hid q2
      have HB3 := Lib.hid hb3
      have HNE := Lib.hid hne
      clear q1 q2 hb3 hne
      go_wp2_with fail
      refine (hwrite_any H (sumL start (l.take t)) (some ⟨b, off + t, none⟩) (t2 - t) (cap - t) ((l.take t2).drop t) W1 (Q1.out.cell 0) (Q1.out.free 0) ?_ (by unfold maxLen; omega)).mono ?_
      · have := (HR.out.next HB3.out).part t t2 ht2a ht2b
        rw [← List.map_take, ← List.map_drop] at this
        exact this
      rw [take_drop_sum l t t2 ht2a]
      rintro e w' ⟨rfl, rfl⟩
      have g1 : RowAt (W1.setCell ⟨H, 0, none⟩ (.int .u64 (sumL start (l.take t2)))) H 48 [.int .u64 (sumL start (l.take t2))] := Q1.out.set 0 _
      have g2 := Q2.out.other 0 (.int .u64 (sumL start (l.take t2))) HNE.out
      have hb4 : Below w.heap.size w (W1.setCell ⟨H, 0, none⟩ (.int .u64 (sumL start (l.take t2)))) := HB3.out.setCell hH _
      generalize W1.setCell ⟨H, 0, none⟩ (.int .u64 (sumL start (l.take t2))) = W2 at *
      clear Q1 Q2 HB3 HNE
      have G1 := Lib.hid g1
      have HB4 := Lib.hid hb4
      have cH := fun x : Bw W2.heap.size W2 => (g1.next x.ok).cell 0
      have cC := fun x : Bw W2.heap.size W2 => (g2.next x.ok).cell 0
      simp only [List.getElem?_cons_zero] at cH cC
      have v1 := fun x : Bw W2.heap.size W2 => conv_part (cap := cap) ((HR.out.next hb4).next x.ok) t2 ht2b
      have v2 := fun x : Bw W2.heap.size W2 => conv_part (cap := cap) ((HR.out.next hb4).next x.ok) t (Nat.le_of_lt g2')
      clear g1 g2 hb4
      go_wp2_with fail
      refine wp_region_bw W2.heap.size (by kernel_rfl) (by kernel_rfl) ?_
      repeat (go_big_quiet_step (first | (go_at_call 22; first | exact Calls.bws _ (hsum_any _ _ _ (cH _)) | exact Calls.bws _ (hsum_any _ _ _ (cC _))) | (go_at_call 14; exact Calls.bws _ (sum_any _ _ (by simp [ByteArray.size, maxLen]; omega)))))
      refine wpQuiet_nil ?_
      rintro w' ⟨x, rfl⟩
      clear cH cC v1 v2
      go_wp2_with fail
      go_roundw
      case rel => exact ⟨k + 1, t2, by omega, by omega, by go_num, rfl, G1.out.next x.ok, bt HB4.out x.ok⟩
      case measure => simp [intOf]; omega
    · have hlen : l.length = len := by have := HR.out.1; simpa using this
      have HL2 := Lib.hid (show l.take len = l from List.take_of_length_le (by omega))
      have HLL := Lib.hid hlen
      clear hlen hb
      have hex : (clen ≤ k ∧ t < cap) ∨ (clen ≤ k ∧ cap ≤ t) ∨ (k < clen ∧ len ≤ t ∧ t < cap) ∨ (k < clen ∧ len ≤ t ∧ cap ≤ t) ∨ (k < clen ∧ t < len ∧ 200 ≤ k) := by omega
      clear hgo
      rcases hex with ⟨g1, g2⟩ | ⟨g1, g2⟩ | ⟨g1, g2, g3⟩ | ⟨g1, g2, g3⟩ | ⟨g1, g2, g3⟩
      · go_wp2_with fail
        refine (hwrite_any H (sumL start (l.take t)) (some ⟨b, off + t, none⟩) (len - t) (cap - t) ((l.take len).drop t) wr (hr.cell 0) (hr.free 0) ?_ (by unfold maxLen; omega)).mono ?_
        · have := (HR.out.next HB.out).part t len ht (Nat.le_refl _)
          rw [← List.map_take, ← List.map_drop] at this
          exact this
        rw [take_drop_sum l t len ht, HL2.out]
        rintro e w' ⟨rfl, rfl⟩
        have g1 : RowAt (wr.setCell ⟨H, 0, none⟩ (.int .u64 (sumL start l))) H 48 [.int .u64 (sumL start l)] := hr.set 0 _
        have hb4 : Below w.heap.size w (wr.setCell ⟨H, 0, none⟩ (.int .u64 (sumL start l))) := HB.out.setCell hH _
        generalize wr.setCell ⟨H, 0, none⟩ (.int .u64 (sumL start l)) = W2 at *
        have HB4 := Lib.hid hb4
        have cH := fun x : Bw W2.heap.size W2 => (g1.next x.ok).cell 0
        simp only [List.getElem?_cons_zero] at cH
        have v1 := fun x : Bw W2.heap.size W2 => conv_part (cap := cap) ((HR.out.next hb4).next x.ok) len (Nat.le_refl _)
        rw [HL2.out] at v1
        clear g1 hb4 hr
        go_wp2_with fail
        refine wp_region_bw W2.heap.size (by kernel_rfl) (by kernel_rfl) ?_
        repeat (go_big_quiet_step (first | (go_at_call 22; exact Calls.bws _ (hsum_any _ _ _ (cH _))) | (go_at_call 14; exact Calls.bws _ (sum_any _ _ (by have := HLL.out; simp [ByteArray.size, maxLen]; omega)))))
        refine wpQuiet_nil ?_
        rintro w' ⟨x, rfl⟩
        clear cH v1
        go_wp2_with fail
        go_ret
        exact ⟨rfl, bt HB4.out x.ok⟩
      · go_wp2_with fail
        refine (hwrite_any H (sumL start (l.take t)) (some ⟨b, off, none⟩) (len - t) 0 ((l.take len).drop t) wr (hr.cell 0) (hr.free 0) ?_ (by unfold maxLen; omega)).mono ?_
        · have e1 : (l.take len).drop t = [] := List.drop_of_length_le (by have := HLL.out; simp; omega)
          rw [e1, show len - t = 0 from by omega]
          exact SliceAt.nil _ _
        rw [take_drop_sum l t len ht, HL2.out]
        rintro e w' ⟨rfl, rfl⟩
        have g1 : RowAt (wr.setCell ⟨H, 0, none⟩ (.int .u64 (sumL start l))) H 48 [.int .u64 (sumL start l)] := hr.set 0 _
        have hb4 : Below w.heap.size w (wr.setCell ⟨H, 0, none⟩ (.int .u64 (sumL start l))) := HB.out.setCell hH _
        generalize wr.setCell ⟨H, 0, none⟩ (.int .u64 (sumL start l)) = W2 at *
        have HB4 := Lib.hid hb4
        have cH := fun x : Bw W2.heap.size W2 => (g1.next x.ok).cell 0
        simp only [List.getElem?_cons_zero] at cH
        have v1 := fun x : Bw W2.heap.size W2 => conv_part (cap := cap) ((HR.out.next hb4).next x.ok) len (Nat.le_refl _)
        rw [HL2.out] at v1
        clear g1 hb4 hr
        go_wp2_with fail
        refine wp_region_bw W2.heap.size (by kernel_rfl) (by kernel_rfl) ?_
        repeat (go_big_quiet_step (first | (go_at_call 22; exact Calls.bws _ (hsum_any _ _ _ (cH _))) | (go_at_call 14; exact Calls.bws _ (sum_any _ _ (by have := HLL.out; simp [ByteArray.size, maxLen]; omega)))))
        refine wpQuiet_nil ?_
        rintro w' ⟨x, rfl⟩
        clear cH v1
        go_wp2_with fail
        go_ret
        exact ⟨rfl, bt HB4.out x.ok⟩
      · go_wp2_with fail
        refine (hwrite_any H (sumL start (l.take t)) (some ⟨b, off + t, none⟩) 0 (cap - t) ((l.take len).drop t) wr (hr.cell 0) (hr.free 0) ?_ (by unfold maxLen; omega)).mono ?_
        · have e1 : (l.take len).drop t = [] := List.drop_of_length_le (by have := HLL.out; simp; omega)
          rw [e1]
          exact SliceAt.nil _ _
        rw [take_drop_sum l t len ht, HL2.out]
        rintro e w' ⟨rfl, rfl⟩
        have g1 : RowAt (wr.setCell ⟨H, 0, none⟩ (.int .u64 (sumL start l))) H 48 [.int .u64 (sumL start l)] := hr.set 0 _
        have hb4 : Below w.heap.size w (wr.setCell ⟨H, 0, none⟩ (.int .u64 (sumL start l))) := HB.out.setCell hH _
        generalize wr.setCell ⟨H, 0, none⟩ (.int .u64 (sumL start l)) = W2 at *
        have HB4 := Lib.hid hb4
        have cH := fun x : Bw W2.heap.size W2 => (g1.next x.ok).cell 0
        simp only [List.getElem?_cons_zero] at cH
        have v1 := fun x : Bw W2.heap.size W2 => conv_part (cap := cap) ((HR.out.next hb4).next x.ok) len (Nat.le_refl _)
        rw [HL2.out] at v1
        clear g1 hb4 hr
        go_wp2_with fail
        refine wp_region_bw W2.heap.size (by kernel_rfl) (by kernel_rfl) ?_
        repeat (go_big_quiet_step (first | (go_at_call 22; exact Calls.bws _ (hsum_any _ _ _ (cH _))) | (go_at_call 14; exact Calls.bws _ (sum_any _ _ (by have := HLL.out; simp [ByteArray.size, maxLen]; omega)))))
        refine wpQuiet_nil ?_
        rintro w' ⟨x, rfl⟩
        clear cH v1
        go_wp2_with fail
        go_ret
        exact ⟨rfl, bt HB4.out x.ok⟩
      · go_wp2_with fail
        refine (hwrite_any H (sumL start (l.take t)) (some ⟨b, off, none⟩) 0 0 ((l.take len).drop t) wr (hr.cell 0) (hr.free 0) ?_ (by unfold maxLen; omega)).mono ?_
        · have e1 : (l.take len).drop t = [] := List.drop_of_length_le (by have := HLL.out; simp; omega)
          rw [e1]
          exact SliceAt.nil _ _
        rw [take_drop_sum l t len ht, HL2.out]
        rintro e w' ⟨rfl, rfl⟩
        have g1 : RowAt (wr.setCell ⟨H, 0, none⟩ (.int .u64 (sumL start l))) H 48 [.int .u64 (sumL start l)] := hr.set 0 _
        have hb4 : Below w.heap.size w (wr.setCell ⟨H, 0, none⟩ (.int .u64 (sumL start l))) := HB.out.setCell hH _
        generalize wr.setCell ⟨H, 0, none⟩ (.int .u64 (sumL start l)) = W2 at *
        have HB4 := Lib.hid hb4
        have cH := fun x : Bw W2.heap.size W2 => (g1.next x.ok).cell 0
        simp only [List.getElem?_cons_zero] at cH
        have v1 := fun x : Bw W2.heap.size W2 => conv_part (cap := cap) ((HR.out.next hb4).next x.ok) len (Nat.le_refl _)
        rw [HL2.out] at v1
        clear g1 hb4 hr
        go_wp2_with fail
        refine wp_region_bw W2.heap.size (by kernel_rfl) (by kernel_rfl) ?_
        repeat (go_big_quiet_step (first | (go_at_call 22; exact Calls.bws _ (hsum_any _ _ _ (cH _))) | (go_at_call 14; exact Calls.bws _ (sum_any _ _ (by have := HLL.out; simp [ByteArray.size, maxLen]; omega)))))
        refine wpQuiet_nil ?_
        rintro w' ⟨x, rfl⟩
        clear cH v1
        go_wp2_with fail
        go_ret
        exact ⟨rfl, bt HB4.out x.ok⟩
      · have i1 : (k : Int) < (clen : Int) := by omega
        have i2 : (t : Int) < (len : Int) := by omega
        have i3 : decide ((k : Int) < 200) = false := by simp; omega
        have hct : t < cap := by omega
        go_wp2_with fail
        refine (hwrite_any H (sumL start (l.take t)) (some ⟨b, off + t, none⟩) (len - t) (cap - t) ((l.take len).drop t) wr (hr.cell 0) (hr.free 0) ?_ (by unfold maxLen; omega)).mono ?_
        · have := (HR.out.next HB.out).part t len ht (Nat.le_refl _)
          rw [← List.map_take, ← List.map_drop] at this
          exact this
        rw [take_drop_sum l t len ht, HL2.out]
        rintro e w' ⟨rfl, rfl⟩
        have g1 : RowAt (wr.setCell ⟨H, 0, none⟩ (.int .u64 (sumL start l))) H 48 [.int .u64 (sumL start l)] := hr.set 0 _
        have hb4 : Below w.heap.size w (wr.setCell ⟨H, 0, none⟩ (.int .u64 (sumL start l))) := HB.out.setCell hH _
        generalize wr.setCell ⟨H, 0, none⟩ (.int .u64 (sumL start l)) = W2 at *
        have HB4 := Lib.hid hb4
        have cH := fun x : Bw W2.heap.size W2 => (g1.next x.ok).cell 0
        simp only [List.getElem?_cons_zero] at cH
        have v1 := fun x : Bw W2.heap.size W2 => conv_part (cap := cap) ((HR.out.next hb4).next x.ok) len (Nat.le_refl _)
        rw [HL2.out] at v1
        clear g1 hb4 hr
        go_wp2_with fail
        refine wp_region_bw W2.heap.size (by kernel_rfl) (by kernel_rfl) ?_
        repeat (go_big_quiet_step (first | (go_at_call 22; exact Calls.bws _ (hsum_any _ _ _ (cH _))) | (go_at_call 14; exact Calls.bws _ (sum_any _ _ (by have := HLL.out; simp [ByteArray.size, maxLen]; omega)))))
        refine wpQuiet_nil ?_
        rintro w' ⟨x, rfl⟩
        clear cH v1
        go_wp2_with fail
        go_ret
        exact ⟨rfl, bt HB4.out x.ok⟩

theorem conv_zero (w : World) (a : Option Addr) (cap : Nat) : (convert 35 9 (.slice a 0 cap)).run Try.prog w = .ok (.string ⟨#[]⟩) w :=
  run_string_of_slice (P := Try.prog) w 35 5 9 Try.underlying35 Try.underlying5 Try.underlying9 a 0 cap [] (SliceAt.nil _ _)

set_option maxHeartbeats 1000000 in
theorem digestParts_many (a : Option Addr) (len cap : Nat) (ca : Option Addr) (clen ccap : Nat) (w : World) (h : 5000 < len) :
    Calls Try.prog 5 #[.slice a len cap, .slice ca clen ccap] w fun e w' => e = .returned (.bool true) ∧ Below w.heap.size w w' := by
  have d1 : decide ((5000 : Int) < (len : Int)) = true := by simp; omega
  go_enter Try.func5, Try.ntmps5
  go_wp2_with fail
  refine (awake_any _).mono ?_
  rintro e w1 ⟨rfl, hb⟩
  go_wp2_with fail
  go_ret
  exact ⟨rfl, hb⟩

set_option maxRecDepth 100000 in
set_option maxHeartbeats 1000000 in
theorem digestParts_zero (a : Option Addr) (cap : Nat) (ca : Option Addr) (clen ccap : Nat) (w : World) (ha : a = none → cap = 0) (hcl : clen ≤ maxLen) (hcap : cap ≤ maxLen) :
    Calls Try.prog 5 #[.slice a 0 cap, .slice ca clen ccap] w fun e w' => e = .returned (.bool true) ∧ Below w.heap.size w w' := by
  unfold maxLen at hcl hcap
  have kz := conv_zero
  have hac : (a = none ∧ cap = 0) ∨ ∃ x, a = some x := by
    cases a with
    | none => exact .inl ⟨rfl, ha rfl⟩
    | some x => exact .inr ⟨x, rfl⟩
  clear ha
  have hc0 : clen = 0 ∨ 0 < clen := by omega
  rcases hac with ⟨rfl, rfl⟩ | ⟨x, rfl⟩ <;> rcases hc0 with rfl | hc0
  all_goals
    go_enter Try.func5, Try.ntmps5
    go_wp2_with fail
    refine (awake_any _).mono ?_
    rintro e w1 ⟨rfl, hb1⟩
    go_wp2_with fail
    refine (new_any _).mono ?_
    rintro e w' ⟨rfl, rfl⟩
    have r1 : RowAt (w1.alloc (.cells #[.int .u64 start] 48)) w1.heap.size 48 [.int .u64 start] := RowAt.new w1 48 [.int .u64 start]
    have hb2 := bA hb1 (.cells #[.int .u64 start] 48)
    have hH : w.heap.size ≤ w1.heap.size := hb1.size
    obtain ⟨H, hHe⟩ : ∃ H, H = w1.heap.size := ⟨_, rfl⟩
    rw [← hHe] at r1 hH ⊢
    generalize w1.alloc (.cells #[.int .u64 start] 48) = W at *
    clear hb1 hHe
    have HB2 := Lib.hid hb2
    have HR1 := Lib.hid r1
    clear hb2 r1
    go_wp2_with fail
    refine wp_loop_rounds 1 ?_
    rw [rounds_succ]
    go_wp2_with fail
    refine (hwrite_any H start _ 0 _ [] W (HR1.out.cell 0) (HR1.out.free 0) (SliceAt.nil _ _) (by unfold maxLen; omega)).mono ?_
    rintro e w' ⟨rfl, rfl⟩
    have g1 : RowAt (W.setCell ⟨H, 0, none⟩ (.int .u64 (sumL start []))) H 48 [.int .u64 (sumL start [])] := HR1.out.set 0 _
    have hb4 : Below w.heap.size w (W.setCell ⟨H, 0, none⟩ (.int .u64 (sumL start []))) := HB2.out.setCell hH _
    generalize W.setCell ⟨H, 0, none⟩ (.int .u64 (sumL start [])) = W2 at *
    have HB4 := Lib.hid hb4
    have cH := fun x : Bw W2.heap.size W2 => (g1.next x.ok).cell 0
    simp only [List.getElem?_cons_zero] at cH
    clear g1 hb4
    go_wp2_with fail
    refine wp_region_bw W2.heap.size (by kernel_rfl) (by kernel_rfl) ?_
    repeat (go_big_quiet_step (first | (go_at_call 22; exact Calls.bws _ (hsum_any _ _ _ (cH _))) | (go_at_call 14; exact Calls.bws _ (sum_any _ _ (by decide)))))
    refine wpQuiet_nil ?_
    rintro w' ⟨x, rfl⟩
    clear cH
    go_wp2_with fail
    go_ret
    exact ⟨rfl, bt HB4.out x.ok⟩

theorem digestParts_any (a : Option Addr) (len cap : Nat) (l : List UInt8) (ca : Option Addr) (clen ccap : Nat) (cs : List UInt8) (w : World) (h : SliceAt w a len (l.map B8)) (hcap : len ≤ cap) (hcap2 : cap ≤ maxLen) (ha : a = none → cap = 0)
    (hc : SliceAt w ca clen (cs.map B8)) (hcl : clen ≤ maxLen) :
    Calls Try.prog 5 #[.slice a len cap, .slice ca clen ccap] w fun e w' => e = .returned (.bool true) ∧ Below w.heap.size w w' := by
  by_cases h5 : 5000 < len
  · exact digestParts_many a len cap ca clen ccap w h5
  · by_cases h0 : len = 0
    · subst h0; exact digestParts_zero a cap ca clen ccap w ha hcl hcap2
    · obtain ⟨b, off, rfl, _⟩ := h.get 0 (by omega)
      exact digestParts_main b off len cap l ca clen ccap cs w h (by omega) (by omega) hcap hcap2 hc hcl
end Go.Proofs.Ytfpmoamecjenlaa
