/- DigestOf walked: true at every input. -/
import Derived.Test.YtfpmoamecjenlaaWf
import Derived.Test.YtfpmoamecjenlaaAp
import Derived.Test.YtfpmoamecjenlaaLa
namespace Go.Proofs.Ytfpmoamecjenlaa
open Go.RowKit

def tot (ps : List ByteArray) : Nat := (ps.map fun p => 8 + p.size).sum
def joinL (ps : List ByteArray) : List UInt8 := ps.flatMap fun p => be8 p.size ++ p.data.toList
theorem tot_snoc (l : List ByteArray) (p : ByteArray) : tot (l ++ [p]) = tot l + 8 + p.size := by simp [tot]; omega
theorem joinL_snoc (l : List ByteArray) (p : ByteArray) : joinL (l ++ [p]) = joinL l ++ be8 p.size ++ p.data.toList := by simp [joinL]
theorem be8_len (n : Int) : (be8 n).length = 8 := by simp [be8]
theorem joinL_len (l : List ByteArray) : (joinL l).length = tot l := by
  induction l with
  | nil => rfl
  | cons p l ih =>
    have h1 : joinL (p :: l) = be8 p.size ++ p.data.toList ++ joinL l := by simp [joinL]
    have h2 : tot (p :: l) = 8 + p.size + tot l := by simp [tot]
    have h3 : p.data.toList.length = p.size := by simp
    rw [h1, h2, List.length_append, List.length_append, be8_len, ih, h3]
theorem ofL_join (u : Int) (ps : List ByteArray) : ofL u ps = sumL u (joinL ps) := by
  induction ps generalizing u with
  | nil => rfl
  | cons p l ih =>
    have h1 : joinL (p :: l) = be8 p.size ++ p.data.toList ++ joinL l := by simp [joinL]
    rw [h1, sumL_append, sumL_append]
    exact ih _
theorem tot_take_le (ps : List ByteArray) (k : Nat) : tot (ps.take k) ≤ tot ps := by
  induction ps generalizing k with
  | nil => simp [tot]
  | cons p l ih =>
    cases k with
    | zero => simp [tot]
    | succ k =>
      have := ih k
      simp only [tot, List.take_succ_cons, List.map_cons, List.sum_cons] at this ⊢
      omega
theorem tot_ge (ps : List ByteArray) : ps.length ≤ tot ps := by
  induction ps with
  | nil => simp [tot]
  | cons p l ih => simp only [tot, List.map_cons, List.sum_cons, List.length_cons] at ih ⊢; omega
theorem byt_zero (k : Int) (n : Nat) (h0 : 0 ≤ k) (h : k < 4294967296) (hn : 32 ≤ n) : byt (k / 2 ^ n) = 0 := by
  have : k / 2 ^ n = 0 := by
    apply Int.ediv_eq_zero_of_lt h0
    have : (2 : Int) ^ 32 ≤ 2 ^ n := by exact_mod_cast Nat.pow_le_pow_right (by decide) hn
    omega
  rw [this]; rfl
theorem be8_small (k : Int) (h0 : 0 ≤ k) (h : k < 4294967296) : be8 k = [0, 0, 0, 0, byt (k / 16777216), byt (k / 65536), byt (k / 256), byt k] := by
  have e : be8 k = [byt (k / 2 ^ 56), byt (k / 2 ^ 48), byt (k / 2 ^ 40), byt (k / 2 ^ 32), byt (k / 2 ^ 24), byt (k / 2 ^ 16), byt (k / 2 ^ 8), byt (k / 2 ^ 0)] := rfl
  rw [e, byt_zero k 56 h0 h (by decide), byt_zero k 48 h0 h (by decide), byt_zero k 40 h0 h (by decide), byt_zero k 32 h0 h (by decide)]
  simp
theorem be8_vals (k : Int) (h0 : 0 ≤ k) (h : k < 4294967296) : (be8 k).map B8 = [.int .u8 0, .int .u8 0, .int .u8 0, .int .u8 0, .int .u8 (k / 16777216 % 256), .int .u8 (k / 65536 % 256), .int .u8 (k / 256 % 256), .int .u8 (k % 256)] := by
  rw [be8_small k h0 h]
  simp only [List.map_cons, List.map_nil, B8_byt]
  rfl
theorem be8_vals2 (k : Int) (h0 : 0 ≤ k) (h : k < 65536) : (be8 k).map B8 = [.int .u8 0, .int .u8 0, .int .u8 0, .int .u8 0, .int .u8 (k / 16777216), .int .u8 (k / 65536), .int .u8 (k / 256), .int .u8 (k % 256)] := by
  rw [be8_vals k h0 (by omega), show k / 16777216 % 256 = k / 16777216 by omega, show k / 65536 % 256 = k / 65536 by omega, show k / 256 % 256 = k / 256 by omega]
theorem str_app (x y : List UInt8) : (⟨x.toArray⟩ : ByteArray) ++ ⟨y.toArray⟩ = ⟨(x ++ y).toArray⟩ := by
  rw [← ByteArray.append_eq]
  ext1
  simp [ByteArray.append]
theorem str_app2 (x : List UInt8) (p : ByteArray) : (⟨x.toArray⟩ : ByteArray) ++ p = ⟨(x ++ p.data.toList).toArray⟩ := by
  rw [← str_app, str_eq]
theorem Try.info9 : (Try.prog.info? 9).map (fun i => (i.zero, i.size, i.bytes)) = some (some (.string ⟨#[]⟩), 1, 16) := by kernel_rfl
theorem owned_at {w : World} {base : Nat} {v : Value} {n : Nat} {l : List Value} {e : TypeId} (h : w.ownsRow base e 1 v n l) : ∃ a cap, v = .slice a n cap ∧ SliceAt w a n l ∧ (a = none → n = 0) := by
  obtain ⟨a, cap, h1, h2⟩ := SliceAt.owned h
  refine ⟨a, cap, h1, h2, ?_⟩
  rintro rfl
  rcases h2.2 with h | ⟨b, off, e, _⟩
  · exact h
  · cases e

theorem ownsNext2 {w : World} {base : Nat} {e : TypeId} {v : Value} {n : Nat} {xs : List Value} {o : Obj} (h : w.ownsRow base e 1 v n xs) : (w.alloc o).ownsRow base e 1 v n xs := h.alloc _
set_option maxRecDepth 100000 in
set_option maxHeartbeats 4000000 in
theorem digestOf_any (a : Option Addr) (len cap : Nat) (ps : List ByteArray) (w : World) (h : SliceAt w a len (ps.map Value.string)) (hn : a = none → len = 0) (hlen : len ≤ 100000000000000) (hp : ∀ p ∈ ps, p.size ≤ 140737488351232) :
    Calls Try.prog 9 #[.slice a len cap] w fun e w' => e = .returned (.bool true) ∧ Below w.heap.size w w' := by
  have HR := Lib.hid h
  have HP := Lib.hid hp
  have HN := Lib.hid hn
  have hpl : ps.length = len := by have := h.1; simpa using this
  have HL := Lib.hid hpl
  clear h hp hpl hn
  go_enter Try.func9, Try.ntmps9
  go_wp2
  go_loop [3, 4] (fun n i => ∃ k T : Nat, k ≤ len ∧ i = .int .i64 k ∧ n = .int .i64 T ∧ T ≤ 140737488371232 ∧ Hid (T = tot (ps.take k))) (fun _ i => len - (intOf i).toNat)
  case atStart => exact ⟨0, 0, Nat.zero_le _, rfl, rfl, by omega, Lib.hid rfl⟩
  case round =>
    obtain ⟨k, T, hk, rfl, rfl, hT, HT⟩ := hrel
    by_cases hgo : k < len ∧ T ≤ 10000
    · obtain ⟨hlt, hle⟩ := hgo
      obtain ⟨b, off, rfl, hbs, hcell⟩ := HR.out.get k hlt
      have hkl : k < ps.length := by rw [HL.out]; exact hlt
      obtain ⟨p, hpe⟩ : ∃ p, p = ps[k] := ⟨_, rfl⟩
      have hck : w.cell? ⟨b, off + k, none⟩ = some (.string p) := by rw [hcell, hpe]; simp [hkl]
      have hps : p.size ≤ 140737488351232 := HP.out p (by rw [hpe]; exact List.getElem_mem _)
      have HS := Lib.hid (show T + 8 + p.size = tot (ps.take (k + 1)) by rw [List.take_succ_eq_append_getElem hkl, ← hpe, tot_snoc, HT.out])
      clear hcell hpe hkl
      go_wp2
      go_round
      case rel => exact ⟨k + 1, T + 8 + p.size, by omega, by go_num, by go_num, by omega, HS⟩
      case measure => simp [intOf]; omega
    · by_cases hbig : 10000 < T
      · have d1 : decide ((10000 : Int) < (T : Int)) = true := by simp; omega
        have d2 : decide ((T : Int) ≤ 10000) = false := by simp; omega
        by_cases hlt : k < len
        all_goals (
          go_wp2_with fail
          refine (awake_any _).mono ?_
          rintro e w1 ⟨rfl, hb⟩
          go_wp2
          go_ret
          exact ⟨rfl, hb⟩)
      · have hke : k = len := by omega
        subst hke
        have hTt : T = tot ps := by rw [HT.out, List.take_of_length_le (by rw [HL.out]; exact Nat.le_refl _)]
        have HTT := Lib.hid hTt
        have hT2 : T ≤ 10000 := by omega
        have d1 : decide ((10000 : Int) < (T : Int)) = false := by simp; omega
        clear hTt hgo hbig HT
        go_wp2_with fail
        refine (awake_any _).mono ?_
        rintro e w1 ⟨rfl, hb1⟩
        go_wp2_with fail
        go_loopw [5, 6] (fun s i wr => ∃ (j : Nat) (l : List UInt8), j ≤ k ∧ i = .int .i64 j ∧ s = .string ⟨l.toArray⟩ ∧ Hid (l = joinL (ps.take j)) ∧ Below w.heap.size w wr) (fun _ i _ => k - (intOf i).toNat)
        case atStart => exact ⟨0, [], Nat.zero_le _, rfl, rfl, Lib.hid rfl, hb1⟩
        case round =>
          obtain ⟨j, l, hj, rfl, rfl, HJ, hb⟩ := hrel
          clear hb1
          by_cases hlt : j < k
          · obtain ⟨b, off, rfl, hbs, hcell⟩ := HR.out.get j hlt
            have hkl : j < ps.length := by rw [HL.out]; exact hlt
            obtain ⟨p, hpe⟩ : ∃ p, p = ps[j] := ⟨_, rfl⟩
            have hck : wr.cell? ⟨b, off + j, none⟩ = some (.string p) := by rw [hb.cell hbs, hcell, hpe]; simp [hkl]
            have hts : ps.take (j + 1) = ps.take j ++ [p] := by rw [hpe, List.take_succ_eq_append_getElem hkl]
            have hlen2 : l.length + 8 + p.size ≤ 10000 := by
              have h1 := tot_take_le ps (j + 1)
              rw [hts, tot_snoc, ← joinL_len, ← HJ.out, ← HTT.out] at h1
              omega
            have HS := Lib.hid (show l ++ be8 p.size ++ p.data.toList = joinL (ps.take (j + 1)) by rw [hts, joinL_snoc, ← HJ.out])
            have hbsz : b < wr.heap.size := Nat.lt_of_lt_of_le hbs hb.size
            clear hcell hpe hkl hts
            go_wp2_with fail
            refine wp_region_parts (by kernel_rfl) (by kernel_rfl) ?_
            replace hck : wr.drew.cell? ⟨b, off + j, none⟩ = some (.string p) := hck
            replace hbsz : b < wr.drew.heap.size := hbsz
            replace hb := hb.drew
            generalize wr.drew = W at *
            apply regL_lq W.heap.size
            intro D hD hn
            have c0 := fun x : Bd W.heap.size W D => (x.ok.cell (p := ⟨b, off + j, none⟩) hbsz).trans hck
            have hbl8 := be8_len
            have i0 : (0 : Int) ≤ (j : Int) := by omega
            have i1 : (j : Int) < (k : Int) := by omega
            repeat (apply wpLQ_pin rfl rfl; intro K hK; go_big_quiet_op; go_big_quiet_on; apply And.intro rfl)
            apply wpLQ_loose (NewRow 5 [.int .u8 0, .int .u8 0, .int .u8 0, .int .u8 0, .int .u8 ((p.size : Int) / 16777216), .int .u8 ((p.size : Int) / 65536), .int .u8 ((p.size : Int) / 256), .int .u8 ((p.size : Int) % 256)]) (newRow_stable _ _) (Nat.le_refl _) hD rfl
            · intro x _
              unfold Runs
              go_simp
              exact newRow_new x.val 5 [.int .u8 0, .int .u8 0, .int .u8 0, .int .u8 0, .int .u8 ((p.size : Int) / 16777216), .int .u8 ((p.size : Int) / 65536), .int .u8 ((p.size : Int) / 256), .int .u8 ((p.size : Int) % 256)]
            intro u
            simp only [Act.put, List.setIfInBounds_toArray, List.set_cons_succ, List.set_cons_zero]
            apply wpLQ_at (.string ⟨(be8 p.size).toArray⟩) (Nat.le_refl _) hD rfl
            · intro x hx
              obtain ⟨bb, rfl, hbb⟩ := Facts.head hx (anc_of (by kernel_rfl))
              have hcv := run_string_of_slice (P := Try.prog) x.val 35 5 9 Try.underlying35 Try.underlying5 Try.underlying9 (some ⟨bb, 0, none⟩) 8 8 (be8 p.size) (by rw [be8_vals2 _ (by omega) (by omega)]; exact SliceAt.row hbb)
              unfold Runs
              go_simp
              exact ⟨rfl, Below.refl _ _⟩
            simp only [Act.put, List.setIfInBounds_toArray, List.set_cons_succ, List.set_cons_zero]
            repeat (apply wpLQ_pin rfl rfl; intro K hK; go_big_quiet_op; go_big_quiet_on; apply And.intro rfl)
            apply wpLQ_nil (by simp)
            intro w4 hb4 _
            rw [str_app, str_app2]
            clear c0 hn
            replace hb := bt hb hb4
            go_wp2
            go_roundw
            case rel => exact ⟨j + 1, _, by omega, by go_num, rfl, HS, hb⟩
            case measure => simp [intOf]; omega
          · have hje : j = k := by omega
            subst hje
            have hlj : l = joinL ps := by rw [HJ.out, List.take_of_length_le (by rw [HL.out]; exact Nat.le_refl _)]
            have hj4 : j ≤ 10000 := by have := tot_ge ps; rw [HL.out, ← HTT.out] at this; omega
            have hll : l.length ≤ 10000 := by rw [hlj, joinL_len, ← HTT.out]; exact hT2
            have hps : ∀ p ∈ ps, p.size ≤ maxLen := fun p hp => by have := HP.out p hp; unfold maxLen; omega
            have HPM := Lib.hid hps
            have HO := Lib.hid (show ofL start ps = sumL start l by rw [hlj]; exact ofL_join start ps)
            have HO2 := Lib.hid (show ofL start (ps ++ [⟨#[]⟩]) = sumL start (l ++ [0, 0, 0, 0, 0, 0, 0, 0]) by rw [ofL_snoc, ofL_join, ← hlj, sumL_append, show be8 ((⟨#[]⟩ : ByteArray).size : Nat) = [0, 0, 0, 0, 0, 0, 0, 0] by decide]; exact List.foldl_nil)
            clear hlj hps
            go_wp2_with fail
            refine (of_lit a j cap ps (sumL start l) _ (HR.out.next hb) (by unfold maxLen; omega) HPM.out HO.out).mono ?_
            rintro e w5 ⟨rfl, hb5⟩
            have hb6 := bt hb hb5
            go_wp2_with fail
            refine (sum_lit ⟨l.toArray⟩ (sumL start l) _ (by simp [ByteArray.size, maxLen]; omega) (by simp)).mono ?_
            rintro e w' ⟨rfl, rfl⟩
            obtain ⟨i0, hi, hz0, hz1, hz2⟩ := info_parts Try.info9
            have ho0 := World.ownsRow_lit (e := 9) (size := 1) (base := w.heap.size) w5 #[] 0 hb6.size (by unfold maxLen; omega) rfl
            obtain ⟨v6, w6, hr6, ho6, _, _, hb7⟩ := run_app (P := Try.prog) (w5.alloc (.cells #[] 9)) w.heap.size 22 22 9 i0 (.string ⟨#[]⟩) 16 Try.underlying22 hi hz0 hz1 hz2 rfl _ 0 [] ho0 a j cap (ps.map Value.string) (HR.out.next (bA hb6 _)) HN.out (by intro u hu; obtain ⟨p, _, rfl⟩ := List.mem_map.1 hu; rfl) (by unfold maxLen; omega) (by omega) (by have := hb6.size; simp; omega)
            have hb8 := (bA hb6 (.cells #[] 9)).trans hb7
            simp only [Nat.zero_add, List.nil_append] at ho6
            obtain ⟨v7, w7, hr7, ho7, _, _, hb9⟩ := run_app (P := Try.prog) (w6.alloc (.cells #[.string ⟨#[]⟩] 9)) w.heap.size 22 22 9 i0 (.string ⟨#[]⟩) 16 Try.underlying22 hi hz0 hz1 hz2 rfl _ j (ps.map Value.string) (ownsNext2 ho6) (some ⟨w6.heap.size, 0, none⟩) 1 1 [.string ⟨#[]⟩] (SliceAt.row (RowAt.new w6 9 [.string ⟨#[]⟩])) (fun h => by cases h) (by intro u hu; simp at hu; subst hu; rfl) (by unfold maxLen; omega) (by omega) (by have := hb8.size; simp; omega)
            have hb10 := (bA hb8 (.cells #[.string ⟨#[]⟩] 9)).trans hb9
            obtain ⟨a7, cap7, he7, hs7, _⟩ := owned_at ho7
            clear hb5
            have HR6 := Lib.hid hr6
            have HR7 := Lib.hid hr7
            have HE7 := Lib.hid he7
            clear hr6 hr7 he7
            go_wp2_with (first | (at_builtin; refine wpList_app rfl (.tmp 70) (.tmp 71) 22 22 rfl rfl HR6.out rfl rfl ?_) | (at_builtin; refine wpList_app rfl (.tmp 72) (.tmp 73) 22 22 rfl rfl HR7.out rfl rfl ?_; rw [HE7.out]))
            refine (of_lit a7 (j + 1) cap7 (ps ++ [⟨#[]⟩]) (sumL start (l ++ [0, 0, 0, 0, 0, 0, 0, 0])) _ (by simpa using hs7) (by unfold maxLen; omega) (by intro p hp; rcases List.mem_append.1 hp with hp | hp; exact HPM.out p hp; simp at hp; subst hp; decide) HO2.out).mono ?_
            rintro e w8 ⟨rfl, hb11⟩
            go_wp2_with fail
            obtain ⟨s2, hs2⟩ : ∃ s2 : ByteArray, s2 = ⟨l.toArray⟩ ++ ⟨#[0, 0, 0, 0, 0, 0, 0, 0]⟩ := ⟨_, rfl⟩
            rw [← hs2]
            have hz2 : s2.size ≤ maxLen := by rw [hs2, ByteArray.size_append]; simp [ByteArray.size, maxLen]; omega
            have hu2 : sumL start s2.data.toList = sumL start (l ++ [0, 0, 0, 0, 0, 0, 0, 0]) := by rw [hs2, ByteArray.data_append]; simp
            have HZ2 := Lib.hid hz2
            have HU2 := Lib.hid hu2
            clear hz2 hu2 hs2
            (with_reducible refine (sum_lit s2 (sumL start (l ++ [0, 0, 0, 0, 0, 0, 0, 0])) _ HZ2.out HU2.out).mono ?_)
            rintro e w' ⟨rfl, rfl⟩
            go_wp2
            go_ret
            exact ⟨rfl, bt hb10 hb11⟩
end Go.Proofs.Ytfpmoamecjenlaa
