/- All, Of, Who, Copy. -/
import Derived.Test.YtaokogeblpjabaaWc
namespace Go.Proofs.Ytaokogeblpjabaa
open Go.RowKit Go.Shelf
theorem OwnI.mono {B B' : Nat} {l : List Int} {v : Value} {w : World} (h : OwnI B l v w) (hb : B' ≤ B) : OwnI B' l v w := by
  rcases h.2 with ⟨e, h0⟩ | ⟨g, cap, cur, e, hg, h1⟩
  · exact ⟨h.1, .inl ⟨e, h0⟩⟩
  · exact ⟨h.1, .inr ⟨g, cap, cur, e, Nat.le_trans hb hg, h1⟩⟩
theorem OwnI.nil (B : Nat) (w : World) : OwnI B [] (.slice none 0 0) w := World.ownsRow_nil _ _ _ _
theorem OwnI.next {B : Nat} {l : List Int} {v : Value} {w w' : World} (h : OwnI B l v w) (hb : Below w.heap.size w w') : OwnI B l v w' := own_fr h (Fr.of_below hb (M := fun _ => False)) (fun _ x => x.elim)
theorem OwnI.slice {B : Nat} {l : List Int} {v : Value} {w : World} (h : OwnI B l v w) : ∃ a cap, v = .slice a l.length cap ∧ SliceAt w a l.length (l.map I64) := SliceAt.owned h
def allL (f : Int → Nat) : List Int := theL fun k => pAll (f k)
def ofL (f : Int → Nat) (a : Int) : List Int := if okT a then theL fun k => pOf a.toNat (f k) else []
def whoK (n m : Nat) : List Int := ((List.range n).filter fun c : Nat => m.testBit c).map fun c : Nat => (c : Int)
theorem whoK_succ (n m : Nat) : whoK (n + 1) m = if m.testBit n = true then whoK n m ++ [(n : Int)] else whoK n m := by
  unfold whoK
  rw [List.range_succ, List.filter_append]
  by_cases h : m.testBit n = true <;> simp [h]
theorem whoK_len (n m : Nat) : (whoK n m).length ≤ n := by
  unfold whoK
  rw [List.length_map]
  refine Nat.le_trans (List.length_filter_le _ _) ?_
  simp
theorem all_any (w : World) (t b : Nat) (f : Int → Nat) (h : DT w t b f) :
    Calls Try.prog 8 #[.pointer (some ⟨t, 0, none⟩)] w fun e w' => ∃ v, e = .returned v ∧ OwnI w.heap.size (allL f) v w' ∧ Below w.heap.size w w' := by
  have HN := Lib.hid (none_any w t b f h)
  have HT := Lib.hid (those_all w t b f h)
  clear h
  go_enter Try.func8, Try.ntmps8
  go_wp2_with fail
  refine HN.out.mono ?_
  rintro e w' ⟨rfl, hw⟩
  rw [hw]
  clear hw w'
  go_wp2_with fail
  refine HT.out.mono ?_
  rintro e w1 ⟨v, rfl, ho, hb⟩
  have HO := Lib.hid ho
  have HB := Lib.hid hb
  clear ho hb HT HN
  go_wp2_with fail
  all_goals refine bodyPost_ret (by simp [results, Try.results8, go_sem]; rfl) rfl ?_
  all_goals exact ⟨_, rfl, HO.out.mono (by omega), HB.out⟩
set_option maxHeartbeats 1000000 in
theorem of_any (w : World) (t b : Nat) (f : Int → Nat) (h : DT w t b f) (a : Int) :
    Calls Try.prog 12 #[.pointer (some ⟨t, 0, none⟩), .int .i64 a] w fun e w' => ∃ v, e = .returned v ∧ OwnI w.heap.size (ofL f a) v w' ∧ Below w.heap.size w w' := by
  have hal : Below w.heap.size w (w.alloc (.cells #[.int .i64 a] 3)) := (Below.refl _ _).alloc (Nat.le_refl _) _
  have HN := Lib.hid (none_any _ t b f (h.next hal))
  have HD := Lib.hid (h.next hal)
  have HR := Lib.hid (RowAt.new w 3 [.int .i64 a])
  have c0 : (w.alloc (.cells #[.int .i64 a] 3)).cell? ⟨w.heap.size, 0, none⟩ = some (.int .i64 a) := HR.out.cell 0
  have HAL := Lib.hid hal
  clear h hal
  by_cases h1 : 0 ≤ a ∧ a ≤ 6
  · obtain ⟨c, rfl⟩ : ∃ c : Nat, a = c := ⟨a.toNat, by omega⟩
    have hc : c < 7 := by omega
    have e1 : ofL f c = theL fun k => pOf c (f k) := by simp [ofL, okT, h1]
    rw [e1]
    clear e1
    have HT : Hid (∀ w, Calls Try.prog 24 #[.int .i64 c] w fun e w' => e = .returned (.bool true) ∧ w' = w) := Lib.hid (fun w => by have := isTree_any w c; rw [decide_eq_true h1] at this; exact this)
    clear h1
    go_enter Try.func12, Try.ntmps12
    go_wp2_with fail
    generalize w.alloc (.cells #[.int .i64 c] 3) = w1 at *
    refine HN.out.mono ?_
    rintro e w' ⟨rfl, hw⟩
    rw [hw]
    clear hw w'
    go_wp2_with fail
    refine (HT.out w1).mono ?_
    rintro e w' ⟨rfl, hw⟩
    rw [hw]
    clear hw w'
    go_wp2_with fail
    refine (those_of w1 t b f HD.out c w.heap.size hc HR.out).mono ?_
    rintro e w2 ⟨v, rfl, ho, hb⟩
    have HO : Hid (OwnI w.heap.size (theL fun k => pOf c (f k)) v w2) := Lib.hid (ho.mono (by have := HAL.out.size; omega))
    have HB := Lib.hid (bt HAL.out hb)
    clear ho hb c0 HR HD
    go_wp2_with fail
    all_goals refine bodyPost_ret (by simp [results, Try.results12, go_sem]; rfl) rfl ?_
    all_goals exact ⟨_, rfl, HO.out, HB.out⟩
  · have e1 : ofL f a = [] := by simp [ofL, okT, h1]
    rw [e1]
    clear e1
    have HT : Hid (∀ w, Calls Try.prog 24 #[.int .i64 a] w fun e w' => e = .returned (.bool false) ∧ w' = w) := Lib.hid (fun w => by have := isTree_any w a; rw [decide_eq_false h1] at this; exact this)
    clear h1
    go_enter Try.func12, Try.ntmps12
    go_wp2_with fail
    generalize w.alloc (.cells #[.int .i64 a] 3) = w1 at *
    refine HN.out.mono ?_
    rintro e w' ⟨rfl, hw⟩
    rw [hw]
    clear hw w'
    go_wp2_with fail
    refine (HT.out w1).mono ?_
    rintro e w' ⟨rfl, hw⟩
    rw [hw]
    clear hw w'
    go_wp2_with fail
    all_goals refine bodyPost_ret (by simp [results, Try.results12, go_sem]; rfl) rfl ?_
    all_goals exact ⟨_, rfl, OwnI.nil _ _, HAL.out⟩
def WhI (w : World) (m : Nat) (l i : Value) (W : World) : Prop := ∃ n : Nat, n ≤ 7 ∧ i = .int .i64 n ∧ OwnI w.heap.size (whoK n m) l W ∧ Below w.heap.size w W
set_option maxHeartbeats 1000000 in
theorem who_any (w : World) (t b : Nat) (f : Int → Nat) (h : DT w t b f) (k : Int) :
    Calls Try.prog 15 #[.pointer (some ⟨t, 0, none⟩), .int .i64 k] w fun e w' => ∃ v, e = .returned v ∧ OwnI w.heap.size (whoK 7 (f k)) v w' ∧ Below w.heap.size w w' := by
  have HN := Lib.hid (none_any w t b f h)
  have HL := Lib.hid (h.look k)
  have c0 := h.c0
  have HM : Hid (f k < 128) := Lib.hid (h.vm.lt k)
  clear h
  generalize f k = m at *
  go_enter Try.func15, Try.ntmps15
  go_wp2_with fail
  refine HN.out.mono ?_
  rintro e w' ⟨rfl, hw⟩
  rw [hw]
  clear hw w'
  go_wp2_with (at_lookup; refine wpList_look rfl rfl rfl rfl HL.out ?_)
  clear HL HN c0
  go_loopw [5, 17] (fun l i wr => WhI w m l i wr) (fun _ i _ => 7 - (intOf i).toNat)
  case atStart => exact ⟨0, by omega, rfl, OwnI.nil _ _, Below.refl _ _⟩
  case round =>
    obtain ⟨n, hn, rfl, ho, hb⟩ := hrel
    have HO := Lib.hid ho
    have HB := Lib.hid hb
    clear ho hb
    by_cases hlt : n < 7
    · have hlt' : (n : Int) < 7 := by omega
      have HH := Lib.hid (has_any wr m n HM.out hlt)
      cases hp : m.testBit n with
      | false =>
        rw [hp] at HH
        have HC : Hid (whoK (n + 1) m = whoK n m) := Lib.hid (by rw [whoK_succ, hp]; rfl)
        clear hp
        go_wp2_with fail
        refine HH.out.mono ?_
        rintro e w' ⟨rfl, hw⟩
        rw [hw]
        clear hw w'
        go_wp2_with fail
        go_roundw
        case rel => exact ⟨n + 1, by omega, by go_num, by rw [HC.out]; exact HO.out, HB.out⟩
        case measure => simp [intOf]; omega
      | true =>
        rw [hp] at HH
        have HC : Hid (whoK (n + 1) m = whoK n m ++ [(n : Int)]) := Lib.hid (by rw [whoK_succ, hp]; rfl)
        have HLN : Hid ((whoK n m).length ≤ 7) := Lib.hid (by have := whoK_len n m; omega)
        clear hp
        have hnew : RowAt (wr.alloc (.cells #[.int .i64 n] 3)) wr.heap.size 3 [.int .i64 n] := RowAt.new wr 3 _
        obtain ⟨i, z, e1, e2, e3, e4, e5⟩ := info3
        obtain ⟨v', w', hrun, ho', _, _, hb'⟩ := run_app (P := Try.prog) (wr.alloc (.cells #[.int .i64 n] 3)) w.heap.size 26 26 3 i z 8 Try.underlying26 e1 e2 e3 e4 e5 u5 (whoK n m).length _ (HO.out.alloc _) (some ⟨wr.heap.size, 0, none⟩) 1 1 [.int .i64 n] (SliceAt.row hnew) (fun h => by cases h) (fun u hu => by simp at hu; subst hu; rfl) (by have := HLN.out; unfold maxLen; omega) (by have := HLN.out; omega) (by have := HB.out.size; simp; omega)
        have HRUN := Lib.hid hrun
        have HO3 : Hid (OwnI w.heap.size (whoK (n + 1) m) v' w') := Lib.hid (by
          rw [HC.out]
          unfold OwnI
          rw [List.length_append, List.map_append]
          exact ho')
        have HB3 := Lib.hid ((HB.out.alloc HB.out.size (.cells #[.int .i64 n] 3)).trans hb')
        clear hnew hrun ho' hb' e1 e2 e3 e4 e5
        go_wp2_with fail
        refine HH.out.mono ?_
        rintro e w' ⟨rfl, hw⟩
        rw [hw]
        clear hw w'
        go_wp2_with (at_builtin; refine wpList_app rfl (.tmp 23) (.tmp 25) 26 26 rfl rfl HRUN.out rfl rfl ?_)
        go_roundw
        case rel => exact ⟨n + 1, by omega, by go_num, HO3.out, HB3.out⟩
        case measure => simp [intOf]; omega
    · obtain rfl : n = 7 := by omega
      go_wp2_with fail
      all_goals refine bodyPost_ret (by simp [results, Try.results15, go_sem]; rfl) rfl ?_
      all_goals exact ⟨_, rfl, HO.out, HB.out⟩
/-- What a copy has, of the keys seen. -/
def part (f : Int → Nat) (seen : List Int) : Int → Nat := fun k => if k ∈ seen then f k else 0
theorem part_upd (f : Int → Nat) (seen : List Int) (k : Int) : updI (part f seen) k (f k) = part f (k :: seen) := by
  funext j
  unfold updI part
  by_cases e : j = k
  · simp [e]
  · simp [e]
theorem part_all {f : Int → Nat} {seen : List Int} (h : ∀ k, f k ≠ 0 → k ∈ seen) : part f seen = f := by
  funext j
  unfold part
  by_cases e : j ∈ seen
  · rw [if_pos e]
  · rw [if_neg e]
    by_cases e0 : f j = 0
    · exact e0.symm
    · exact absurd (h j e0) e
def CpI (w : World) (t b t' b' r : Nat) (f : Int → Nat) (W : World) : Prop := ∃ seen, IterAt W r b (mapOf f) seen ∧ DT W t b f ∧ DT W t' b' (part f seen) ∧ Below w.heap.size w W
set_option maxHeartbeats 1000000 in
theorem copy_any (w : World) (t b : Nat) (f : Int → Nat) (h : DT w t b f) :
    Calls Try.prog 16 #[.pointer (some ⟨t, 0, none⟩)] w fun e w' => ∃ t' b', e = .returned (.pointer (some ⟨t', 0, none⟩)) ∧ DT w' t' b' f ∧ w.heap.size ≤ t' ∧ w.heap.size ≤ b' ∧ Below w.heap.size w w' := by
  have HD := Lib.hid h
  clear h
  go_enter Try.func16, Try.ntmps16
  go_wp2_with fail
  refine (new_any w).mono ?_
  rintro e w1 ⟨rfl, hd, hb⟩
  have HN := Lib.hid hd
  have HB1 := Lib.hid hb
  have HD1 := Lib.hid (HD.out.next hb)
  have c0 := HD1.out.c0
  clear hd hb
  obtain ⟨t', ht⟩ : ∃ t', t' = w.heap.size + 1 := ⟨_, rfl⟩
  obtain ⟨b', hb'⟩ : ∃ b', b' = w.heap.size := ⟨_, rfl⟩
  rw [← ht, ← hb'] at HN
  rw [← ht]
  have HT : Hid (t' = w.heap.size + 1 ∧ b' = w.heap.size) := Lib.hid ⟨ht, hb'⟩
  clear ht hb'
  go_wp2_with (at_range; refine wpList_range rfl (.tmp 12) rfl rfl HD1.out.map Try.underlying48 fun w2 hi hb hz => ?_)
  simp only [Act.put, List.setIfInBounds_toArray, List.set_cons_succ, List.set_cons_zero]
  have HI := Lib.hid hi
  have HD2 := Lib.hid (HD1.out.next hb)
  have HN2 := Lib.hid (HN.out.next hb)
  have HB2 := Lib.hid (bt HB1.out hb)
  have HRL : Hid (t' < w1.heap.size ∧ b' < w1.heap.size ∧ b < w1.heap.size ∧ t < w1.heap.size) := Lib.hid (by have := HN.out.lt; have := HD1.out.lt; omega)
  have HNE : Hid (w.heap.size ≤ t' ∧ w.heap.size ≤ b' ∧ b < w.heap.size ∧ t < w.heap.size) := Lib.hid (by have := HT.out; have := HD.out.lt; omega)
  clear hi hb hz c0 HD1 HN HB1 HT
  obtain ⟨r, hr⟩ : ∃ r, r = w1.heap.size := ⟨_, rfl⟩
  rw [← hr] at HI HRL ⊢
  clear hr
  go_loopw [] (fun wr => CpI w t b t' b' r f wr) (fun wr => wr.rangeLeft b r)
  case atStart => exact ⟨[], HI.out, HD2.out, by rw [show part f [] = fun _ => 0 from funext fun _ => by simp [part]]; exact HN2.out, HB2.out⟩
  case round =>
    obtain ⟨seen, hi, hd, hn, hb⟩ := hrel
    clear HI HD2 HN2 HB2
    have HI := Lib.hid hi
    have HD2 := Lib.hid hd
    have HN2 := Lib.hid hn
    have HB2 := Lib.hid hb
    have HRR : Hid (w.heap.size ≤ r) := Lib.hid (by have := HRL.out; have := HNE.out; omega)
    clear hi hd hn hb
    have HQ : Hid (∀ k w2, Hid (f k ≠ 0 ∧ k ∉ seen) → Hid (Fr (· = r) wr w2) → ∃ w3, Hid ((Instr.mapUpdate 48 (.map (some b')) (.int .i64 k) (.int .u8 (f k))).run Try.prog w2 = .ok () w3) ∧ Hid (DT w3 t' b' (part f (k :: seen))) ∧ Hid (Fr (· = b') w2 w3)) := Lib.hid (fun k w2 hk hfr => by
      obtain ⟨w3, h1, h2, h3⟩ := (HN2.out.fr hfr.out (by have := HRL.out; omega) (by have := HRL.out; omega)).store (HD.out.vm.dom k hk.out.1) (HD.out.vm.lt k) hk.out.1
      rw [part_upd] at h2
      exact ⟨w3, Lib.hid h1, Lib.hid h2, Lib.hid h3⟩)
    go_wp2_with (first
      | (at_next; refine dt_next rfl (.tmp 13) rfl rfl HI.out (fun hd => ?_) (fun k w2 hk hit hfr hsz hlt hen => Exists.elim (HQ.out k w2 hk hfr) fun w3 h3 => (have HRUN := h3.1; have c1 : w2.cell? ⟨t', 0, none⟩ = some (.map (some b')) := (HN2.out.fr hfr.out (by have := HRL.out; omega) (by have := HRL.out; omega)).c0; ?_)))
      | (at_mapUpdate; refine wpList_upd rfl rfl rfl rfl rfl HRUN.out ?_))
    · have HE : Hid (part f seen = f) := Lib.hid (part_all hd)
      clear hd
      refine bodyPost_ret (by simp [results, Try.results16, go_sem]; rfl) rfl ?_
      exact ⟨t', b', rfl, by rw [← HE.out]; exact HN2.out, HNE.out.1, HNE.out.2.1, HB2.out⟩
    · have HD3 : Hid (DT w2 t b f) := Lib.hid (HD2.out.fr hfr.out (by have := HRL.out; omega) (by have := HRL.out; omega))
      have HN3 : Hid (DT w2 t' b' (part f seen)) := Lib.hid (HN2.out.fr hfr.out (by have := HRL.out; omega) (by have := HRL.out; omega))
      have HB3 : Hid (Below w.heap.size w w2) := Lib.hid (Below.trans HB2.out (Fr.below hfr.out HB2.out.size (fun _ e => by have := HRR.out; omega)))
      obtain ⟨_, HN4, hfh⟩ := h3
      have hf3 := hfh.out
      have HD4 : Hid (DT w3 t b f) := Lib.hid (HD3.out.fr hf3 (by have := HNE.out; omega) (by have := HNE.out; omega))
      have HI4 : Hid (IterAt w3 r b (mapOf f) (k :: seen)) := Lib.hid (hit.out.fr hf3 (by have := HNE.out; omega) (by have := HRL.out; omega))
      have HB4 : Hid (Below w.heap.size w w3) := Lib.hid (Below.trans HB3.out (Fr.below hf3 HB3.out.size (fun _ e => by have := HNE.out; omega)))
      have HM : Hid (w3.rangeLeft b r < wr.rangeLeft b r) := Lib.hid (by
        have e : w3.rangeLeft b r = w2.rangeLeft b r := by
          unfold World.rangeLeft
          rw [hf3.block b (by have := HD3.out.lt; omega) (by have := HNE.out; omega), hf3.block r hit.out.ltr (by have := HRL.out; omega)]
        rw [e]
        exact hlt.out)
      clear hf3 hfh
      simp only [Act.put]
      go_roundw
      case rel => exact ⟨k :: seen, HI4.out, HD4.out, HN4.out, HB4.out⟩
      case measure => exact HM.out
end Go.Proofs.Ytaokogeblpjabaa
