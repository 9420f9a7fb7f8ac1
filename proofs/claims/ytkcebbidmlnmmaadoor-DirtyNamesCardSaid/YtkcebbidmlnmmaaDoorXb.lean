/- The document's Write, Copy. -/
import Derived.Test.YtkcebbidmlnmmaaDoorXa
import Derived.Test.YtkcebbidmlnmmaaDoorWm
namespace Go.Proofs.YtkcebbidmlnmmaaDoor
open Go.RowKit
theorem Xf.mk_row {W : World} {q : Nat} {v : Value} {L : List Wr} {S : Nat → Prop} (hr : RowAt W q 44 [v]) (ho : OX W v L) (hs : S q) (hk : ∀ k, v.ownBlock = some k → S k) (hu : ∀ i, S i → i < W.heap.size) : Xf W q L S := ⟨⟨v, hr, ho, hk⟩, hs, hu⟩
/-- A new row is stored into the buffer. -/
theorem Xf.store {w w1 : World} {q : Nat} {S : Nat → Prop} {u v : Value} {L' : List Wr} (hs : S q) (hu : ∀ i, S i → i < w.heap.size) (hf : Fr S w w1) (hr : RowAt w1 q 44 [u]) (ho : OX w1 v L') (hk : ∀ k, v.ownBlock = some k → S k ∨ w.heap.size ≤ k) :
    XGo w q S L' (w1.setCell ⟨q, 0, none⟩ v) := by
  have hfs : Fr (· = q) w1 (w1.setCell ⟨q, 0, none⟩ v) := (Fr.refl (· = q) w1).setCell (b := q) rfl _
  have hlt := ox_lt ho
  refine ⟨fun i => S i ∨ (v.ownBlock = some i ∧ i < w1.heap.size), ⟨⟨v, hr.set 0 v, ox_fr ho hfs (fun k hk e => ?_), fun k hk => .inr ⟨hk, hlt k hk⟩⟩, .inl hs, fun i hi => ?_⟩, hf.trans (hfs.mono (fun i _ e => by rw [e]; exact hs)), fun i hi => ?_⟩
  · exact ox_ne ho hr (by decide) k hk e
  · rcases hi with hi | hi
    · exact Nat.lt_of_lt_of_le (Nat.lt_of_lt_of_le (hu i hi) hf.size) hfs.size
    · exact Nat.lt_of_lt_of_le hi.2 hfs.size
  · rcases hi with hi | hi
    · exact .inl hi
    · exact hk i hi.1
attribute [local go_sem ↓] Go.wp_at_zero Go.wp_at_succ
set_option maxHeartbeats 2000000 in
theorem rwrite_bad (w : World) (q : Nat) (L : List Wr) (S : Nat → Prop) (h : Xf w q L S) (hok : Ok L) (k a : Int) (t : ByteArray) (ht : t.size ≤ 100000) (hb : writeE L k a t ≠ 0 ∨ t.size = 0) :
    Calls Tryd.prog 31 #[.pointer (some ⟨q, 0, none⟩), .int .i64 k, .int .i64 a, .string t] w fun e w' => e = .returned (.int .i64 (writeE L k a t)) ∧ Below w.heap.size w w' := by
  have HH := Lib.hid (rheld_any w q L S h hok)
  have htop := hok.top
  clear h
  unfold writeE at *
  generalize tot L = n at *
  by_cases h1 : k < 1
  · rw [if_pos (.inl h1)]
    have g1 : decide (k < 1) = true := by simpa using h1
    clear hb
    go_enter Tryd.func31, Tryd.ntmps31
    go_wp2_with fail
    all_goals refine bodyPost_ret (by simp [results, Tryd.results31, go_sem]; rfl) rfl ?_
    all_goals exact ⟨rfl, Below.refl _ _⟩
  have g1 : decide (k < 1) = false := by simpa using h1
  by_cases h2 : a < 0
  · rw [if_pos (.inr h2)]
    have g2 : decide (a < 0) = true := by simpa using h2
    clear hb
    go_enter Tryd.func31, Tryd.ntmps31
    go_wp2_with fail
    all_goals refine bodyPost_ret (by simp [results, Tryd.results31, go_sem]; rfl) rfl ?_
    all_goals exact ⟨rfl, Below.refl _ _⟩
  have g2 : decide (a < 0) = false := by simpa using h2
  rw [if_neg (show ¬ (k < 1 ∨ a < 0) by omega)] at hb ⊢
  by_cases h3 : 32768 < a
  · rw [if_pos (.inl h3)]
    have g3 : decide (a > 32768) = true := by simpa using h3
    have g3' : decide (32768 < a) = true := by simpa using h3
    clear hb
    go_enter Tryd.func31, Tryd.ntmps31
    go_wp2_with fail
    all_goals refine bodyPost_ret (by simp [results, Tryd.results31, go_sem]; rfl) rfl ?_
    all_goals exact ⟨rfl, Below.refl _ _⟩
  have g3 : decide (a > 32768) = false := by simpa using h3
  have g3' : decide (32768 < a) = false := by simpa using h3
  have e3 : IntKind.i64.wrap (32768 - a) = 32768 - a := IntWalk.i64_in _ (by omega)
  by_cases h4 : 32768 - a < (t.size : Int)
  · rw [if_pos (.inr h4)]
    have g4 : decide ((t.size : Int) > 32768 - a) = true := by simpa using h4
    have g4' : decide (32768 - a < (t.size : Int)) = true := by simpa using h4
    clear hb
    go_enter Tryd.func31, Tryd.ntmps31
    go_wp2_with fail
    all_goals refine bodyPost_ret (by simp [results, Tryd.results31, go_sem]; rfl) rfl ?_
    all_goals exact ⟨rfl, Below.refl _ _⟩
  have g4 : decide ((t.size : Int) > 32768 - a) = false := by simpa using h4
  have g4' : decide (32768 - a < (t.size : Int)) = false := by simpa using h4
  rw [if_neg (show ¬ (32768 < a ∨ 32768 - a < (t.size : Int)) by omega)] at hb ⊢
  have e4 : IntKind.i64.wrap ((n : Int) + (t.size : Int)) = (n : Int) + (t.size : Int) := IntWalk.i64_in _ (by omega)
  by_cases h5 : 65536 < n + t.size
  · rw [if_pos h5]
    have g5 : decide ((n : Int) + (t.size : Int) > 65536) = true := by simp; omega
    have g5' : decide (65536 < (n : Int) + (t.size : Int)) = true := by simp; omega
    clear hb
    go_enter Tryd.func31, Tryd.ntmps31
    go_wp2_with fail
    refine HH.out.mono ?_
    rintro e w1 ⟨rfl, hb1⟩
    go_wp2_with fail
    all_goals refine bodyPost_ret (by simp [results, Tryd.results31, go_sem]; rfl) rfl ?_
    all_goals exact ⟨rfl, hb1⟩
  have g5 : decide ((n : Int) + (t.size : Int) > 65536) = false := by simp; omega
  have g5' : decide (65536 < (n : Int) + (t.size : Int)) = false := by simp; omega
  rw [if_neg h5] at hb ⊢
  have h0 : t.size = 0 := by omega
  have ht := str_nil t h0
  subst ht
  go_enter Tryd.func31, Tryd.ntmps31
  go_wp2_with fail
  refine HH.out.mono ?_
  rintro e w1 ⟨rfl, hb1⟩
  go_wp2_with fail
  all_goals refine bodyPost_ret (by simp [results, Tryd.results31, go_sem]; rfl) rfl ?_
  all_goals exact ⟨rfl, hb1⟩
set_option maxHeartbeats 4000000 in
set_option maxRecDepth 20000 in
theorem rwrite_good (w : World) (q : Nat) (L : List Wr) (S : Nat → Prop) (h : Xf w q L S) (hok : Ok L) (k a : Int) (t : ByteArray) (hb : writeE L k a t = 0 ∧ t.size ≠ 0) :
    Calls Tryd.prog 31 #[.pointer (some ⟨q, 0, none⟩), .int .i64 k, .int .i64 a, .string t] w fun e w' => e = .returned (.int .i64 0) ∧ XGo w q S (L ++ [(k, a.toNat, t)]) w' := by
  have HH := Lib.hid (rheld_any w q L S h hok)
  have htop := hok.top
  have hlen := hok.len
  obtain ⟨hb1, hb2⟩ := hb
  have hz := writeE_zero.1 hb1
  obtain ⟨z1, z2, z3, z4⟩ := hz
  have HX := Lib.hid h
  clear h hok hb1
  have hts : t.toList.isEmpty = false := by
    rw [Lib.toList_data]
    cases h : t.data.toList with
    | nil => exact absurd (show t.size = 0 by rw [ByteArray.size, ← Array.length_toList, h]; rfl) hb2
    | cons _ _ => rfl
  have g1 : decide (k < 1) = false := by simp; omega
  have g2 : decide (a < 0) = false := by simp; omega
  have g3 : decide (a > 32768) = false := by simp; omega
  have g3' : decide (32768 < a) = false := by simp; omega
  have e3 : IntKind.i64.wrap (32768 - a) = 32768 - a := IntWalk.i64_in _ (by omega)
  have g4 : decide ((t.size : Int) > 32768 - a) = false := by simp; omega
  have g4' : decide (32768 - a < (t.size : Int)) = false := by simp; omega
  generalize tot L = n at *
  have e4 : IntKind.i64.wrap ((n : Int) + (t.size : Int)) = (n : Int) + (t.size : Int) := IntWalk.i64_in _ (by omega)
  have g5 : decide ((n : Int) + (t.size : Int) > 65536) = false := by simp; omega
  have g5' : decide (65536 < (n : Int) + (t.size : Int)) = false := by simp; omega
  clear z1 z3 z4 htop
  go_enter Tryd.func31, Tryd.ntmps31
  go_wp2_with fail
  refine HH.out.mono ?_
  rintro e w1 ⟨rfl, hb1⟩
  obtain ⟨⟨v, hr, ho, hv⟩, hs, hu⟩ := HX.out.next hb1
  have HU := Lib.hid HX.out.up
  clear HX HH
  have hal : Below w1.heap.size w1 (w1.alloc (.cells #[.int .i64 k, .int .i64 (a.toNat : Int), .string t] 65)) := bA (Below.refl _ _) _
  have hro : RowAt (w1.alloc (.cells #[.int .i64 k, .int .i64 (a.toNat : Int), .string t] 65)) w1.heap.size 65 [.int .i64 k, .int .i64 (a.toNat : Int), .string t] := RowAt.new w1 65 [.int .i64 k, .int .i64 (a.toNat : Int), .string t]
  obtain ⟨A', c', w2, r1, o1, f1, k1⟩ := run_appX _ _ L (ox_next ho hal) ⟨w1.heap.size, 0, none⟩ 1 [(k, a.toNat, t)] (fun j u hu => by
    have e1 : (⟨w1.heap.size, 0, none⟩ : Addr).add j = ⟨w1.heap.size, j, none⟩ := by rw [Addr.add_mid, Nat.zero_add]
    rw [e1, hro.cell j]
    exact hu) (by simp; omega)
  simp only [List.length_singleton] at r1 o1 k1
  obtain ⟨A, c, rfl⟩ := ownX_shape ho
  have hne := ox_ne ho hr (by decide)
  have hr2 : RowAt w2 q 44 [.slice A L.length c] := (hr.next hal).fr f1 (fun x => hne q x rfl)
  have hfw : Fr S w1 w2 := (Fr.of_below hal).trans (f1.mono (fun i _ x => hv i x))
  have HG : Hid (XGo w q S (L ++ [(k, a.toNat, t)]) (w2.setCell ⟨q, 0, none⟩ (.slice A' (L.length + 1) c'))) := Lib.hid (by
    refine Xf.store hs HU.out ((Fr.of_below hb1).trans (hfw)) hr2 o1 (fun i hi => ?_)
    rcases k1 with e | e
    · rw [e] at hi; exact .inl (hv i hi)
    · rw [e] at hi
      cases hi
      right
      have := hb1.size
      have := hal.size
      simp at *
      omega)
  have c1 := hr.cell 0
  simp only [List.getElem?_cons_zero] at c1
  have c2 : w2.cell? ⟨q, 0, none⟩ = some (.slice A L.length c) := hr2.cell 0
  have c3 := hr2.free 0
  have ha : ((a.toNat : Nat) : Int) = a := by omega
  rw [ha] at r1
  have HR := Lib.hid r1
  have hql : q < w1.heap.size := hr.lt
  have c4 : (w1.alloc (.cells #[.int .i64 k, .int .i64 a, .string t] 65)).cell? ⟨q, 0, none⟩ = some (.slice A L.length c) := (((Below.refl w1.heap.size w1).alloc (Nat.le_refl _) _).cell (p := ⟨q, 0, none⟩) hql).trans c1
  clear r1 o1 k1 f1 hal hro hfw ho hr hr2 hv hs hu hne hb1
  generalize L.length = m at *
  clear ha
  go_wp2_with (at_builtin; refine wpList_app rfl (.tmp 36) (.tmp 41) 42 42 rfl rfl HR.out (by rfl) (by rfl) ?_)
  all_goals refine bodyPost_ret (by simp [results, Tryd.results31, go_sem]; rfl) rfl ?_
  all_goals exact ⟨rfl, HG.out⟩
theorem rwrite_any (w : World) (q : Nat) (L : List Wr) (S : Nat → Prop) (h : Xf w q L S) (hok : Ok L) (k a : Int) (t : ByteArray) (ht : t.size ≤ 100000) :
    Calls Tryd.prog 31 #[.pointer (some ⟨q, 0, none⟩), .int .i64 k, .int .i64 a, .string t] w fun e w' => e = .returned (.int .i64 (writeE L k a t)) ∧ XGo w q S (writeL L k a t) w' := by
  by_cases hb : writeE L k a t = 0 ∧ t.size ≠ 0
  · have e : writeL L k a t = L ++ [(k, a.toNat, t)] := by unfold writeL; rw [if_pos hb]
    rw [e, hb.1]
    exact rwrite_good w q L S h hok k a t hb
  · have e : writeL L k a t = L := by unfold writeL; rw [if_neg hb]
    rw [e]
    refine (rwrite_bad w q L S h hok k a t ht (by omega)).mono ?_
    rintro e w' ⟨rfl, hb⟩
    exact ⟨rfl, S, h.next hb, Fr.of_below hb, fun _ x => .inl x⟩
end Go.Proofs.YtkcebbidmlnmmaaDoor
