/- The document's Need, Who. -/
import Derived.Test.YtaokogeblpjabaaXa
import Derived.Deep.RegionHeld3
namespace Go.Proofs.Ytaokogeblpjabaa
open Go.RowKit
theorem own2_shape {w : World} {v : Value} {n : Nat} {xs : List Value} (h : w.ownsRow 0 61 2 v n xs) : ∃ A c, v = .slice A n c := by
  rcases h.2 with ⟨rfl, rfl⟩ | ⟨g, cap, cur, rfl, _⟩
  · exact ⟨_, _, rfl⟩
  · exact ⟨_, _, rfl⟩
theorem info61 : ∃ i z, Try.prog.info? 61 = some i ∧ i.zero = some z ∧ i.size = 2 ∧ i.bytes = 16 ∧ z.cells.size = 2 := ⟨_, _, rfl, rfl, rfl, rfl, rfl⟩
theorem flat_one (L : List Pr) : ∀ u ∈ flat L, u.oneCell' = true := by
  intro u hu
  unfold flat at hu
  rw [List.mem_flatMap] at hu
  obtain ⟨p, _, h⟩ := hu
  rcases List.mem_cons.1 h with rfl | h
  · rfl
  · rw [List.mem_singleton.1 h]; rfl
/-- append of pairs onto a row of their own. -/
theorem run_app2 (w : World) (v : Value) (L : List Pr) (hown : w.ownsRow 0 61 2 v L.length (flat L)) (ad : Addr) (c : Nat) (N : List Pr) (hnews : ∀ j u, (flat N)[j]? = some u → w.cell? (ad.add j) = some u) (hl : L.length + N.length ≤ 100000) :
    ∃ A' c' w', (Builtin.append_ #[41, 41] 41 #[v, .slice (some ad) N.length c]).run Try.prog w = .ok (.slice A' (L.length + N.length) c') w' ∧ w'.ownsRow 0 61 2 (.slice A' (L.length + N.length) c') (L ++ N).length (flat (L ++ N)) ∧ Fr (fun k => v.ownBlock = some k) w w' ∧
      ((Value.slice A' (L.length + N.length) c').ownBlock = v.ownBlock ∨ (Value.slice A' (L.length + N.length) c').ownBlock = some w.heap.size) := by
  obtain ⟨i, z, e1, e2, e3, e4, e5⟩ := info61
  obtain ⟨v', w', h1, h2, h3, _, h5⟩ := run_append_own_at (P := Try.prog) w 0 41 41 61 i z 2 16 Try.underlying41 e1 e2 e3 e4 e5 (by omega) v L.length (flat L) hown ad N.length c (flat N) (flat_len N) hnews (flat_one N) (by unfold maxLen; omega) (by omega) (by omega)
  obtain ⟨A', c', rfl⟩ := own2_shape h2
  refine ⟨A', c', w', h1, by rw [List.length_append, flat_append]; exact h2, ⟨h3.os, h3.tape, h3.output, h3.size, fun k hk hn => h3.block k hk (fun e => hn e.symm)⟩, h5⟩
theorem row_ne {w : World} {q : Nat} {u : Value} {v : Value} {n : Nat} {xs : List Value} (hr : RowAt w q 43 [u]) (ho : w.ownsRow 0 61 2 v n xs) : ∀ k, v.ownBlock = some k → k ≠ q := by
  intro k hk e
  subst e
  rcases ho.2 with ⟨rfl, _⟩ | ⟨g, cap, cur, rfl, _, hb, _⟩
  · cases hk
  · cases hk
    unfold RowAt at hr
    rw [hr] at hb
    simp at hb
theorem XT.push {w : World} {q g : Nat} {L : List Pr} (h : XT w q g L) (hL : L.length ≤ 60000) (a k : Int) :
    ∃ v A' c' w' g', w.cell? ⟨q, 0, none⟩ = some v ∧ (Builtin.append_ #[41, 41] 41 #[v, .slice (some ⟨w.heap.size, 0, none⟩) 1 1]).run Try.prog (w.alloc (.cells #[.int .i64 a, .int .i64 k] 61)) = .ok (.slice A' (L.length + 1) c') w' ∧
      w'.frozen? ⟨q, 0, none⟩ = false ∧ w'.cell? ⟨q, 0, none⟩ = some v ∧ XT (w'.setCell ⟨q, 0, none⟩ (.slice A' (L.length + 1) c')) q g' (L ++ [(a, k)]) ∧ Fr (QG q g) w (w'.setCell ⟨q, 0, none⟩ (.slice A' (L.length + 1) c')) ∧ (g' = g ∨ w.heap.size ≤ g') := by
  have hql := h.lt
  obtain ⟨v, hr, ho, hg, hgl⟩ := h
  have hal : Below w.heap.size w (w.alloc (.cells #[.int .i64 a, .int .i64 k] 61)) := (Below.refl _ _).alloc (Nat.le_refl _) _
  have hro := RowAt.new w 61 [.int .i64 a, .int .i64 k]
  obtain ⟨A', c', w', h1, h2, h3, h4⟩ := run_app2 (w.alloc (.cells #[.int .i64 a, .int .i64 k] 61)) v L (ho.alloc _) ⟨w.heap.size, 0, none⟩ 1 [(a, k)] (fun j u hu => by
    have e1 : (⟨w.heap.size, 0, none⟩ : Addr).add j = ⟨w.heap.size, j, none⟩ := by rw [Addr.add_mid, Nat.zero_add]
    rw [e1, hro.cell j]
    exact hu) (by simp; omega)
  have hne := row_ne (hr.next hal) (ho.alloc (.cells #[.int .i64 a, .int .i64 k] 61))
  have hr2 : RowAt w' q 43 [v] := (hr.next hal).fr h3 (fun e => hne q e rfl)
  have hne2 := row_ne hr2 h2
  have hfs : Fr (· = q) w' (w'.setCell ⟨q, 0, none⟩ (.slice A' (L.length + 1) c')) := (Fr.refl (· = q) w').setCell (b := q) rfl _
  have hz : (w.alloc (.cells #[.int .i64 a, .int .i64 k] 61)).heap.size = w.heap.size + 1 := by simp
  obtain ⟨g', hgg, hgn, hgs⟩ : ∃ g', (∀ k, (Value.slice A' (L.length + 1) c').ownBlock = some k → k = g') ∧ (g' = g ∨ w.heap.size ≤ g') ∧ g' < w'.heap.size := by
    have hlt : ∀ k, (Value.slice A' (L.length + 1) c').ownBlock = some k → k < w'.heap.size := fun k hk => by
      have h2' := h2
      simp only [List.length_singleton] at h2'
      rcases h2'.2 with ⟨e, h0⟩ | ⟨gg, cap, cur, e, hb, hh, hrest⟩
      · simp at h0
      · rw [e] at hk
        cases hk
        exact (Array.getElem?_eq_some_iff.1 hh).1
    rcases h4 with e | e
    · exact ⟨g, fun k hk => hg k (by rw [← e]; exact hk), .inl rfl, by have := hal.size; have := h3.size; omega⟩
    · exact ⟨w.heap.size + 1, fun k hk => by
        have e' : (Value.slice A' (L.length + 1) c').ownBlock = some (w.heap.size + 1) := by rw [← hz]; exact e
        rw [e'] at hk
        cases hk; rfl, .inr (by omega), hlt _ (by rw [← hz]; exact e)⟩
  refine ⟨v, A', c', w', g', hr.cell 0, h1, hr2.free 0, hr2.cell 0, ⟨_, hr2.set 0 _, ?_, hgg, by simpa using hgs⟩, ?_, hgn⟩
  · rcases h2.2 with ⟨e, h0⟩ | ⟨gg, cap, cur, e, hb, hh, hrest⟩
    · simp at h0
    · refine ⟨h2.1, .inr ⟨gg, cap, cur, e, hb, ?_, hrest⟩⟩
      have : gg ≠ q := hne2 gg (by rw [e]; rfl)
      rw [hfs.block gg (Array.getElem?_eq_some_iff.1 hh).1 this]
      exact hh
  · have f1 : Fr (QG q g) w w' := (Fr.of_below hal (M := QG q g)).trans (h3.mono (fun k _ e => .inr (hg k e)))
    exact f1.trans (hfs.mono (fun _ _ e => .inl e))
def pneedE (L : List Pr) (a k : Int) : Int := if okT a ∧ okB k then (if (a, k) ∈ L then 6 else 0) else 1
def pneedL (L : List Pr) (a k : Int) : List Pr := if okT a ∧ okB k ∧ (a, k) ∉ L then L ++ [(a, k)] else L
/-- The document's table goes from one list to the next. -/
def XGo (w : World) (q g : Nat) (L' : List Pr) (w' : World) : Prop := ∃ g', XT w' q g' L' ∧ Fr (QG q g) w w' ∧ (g' = g ∨ w.heap.size ≤ g')
theorem XGo.same {w w' : World} {q g : Nat} {L : List Pr} (h : XT w q g L) (hb : Below w.heap.size w w') : XGo w q g L w' := ⟨g, h.next hb, Fr.of_below hb, .inl rfl⟩
set_option maxHeartbeats 1000000 in
theorem pneed_any (w : World) (q g : Nat) (L : List Pr) (h : XT w q g L) (hL : L.length ≤ 60000) (a k : Int) :
    Calls Try.prog 31 #[.pointer (some ⟨q, 0, none⟩), .int .i64 a, .int .i64 k] w fun e w' => e = .returned (.int .i64 (pneedE L a k)) ∧ XGo w q g (pneedL L a k) w' := by
  have HT := Lib.hid (tree_any w a)
  have HK := Lib.hid (block_any w k)
  have HX := Lib.hid h
  clear h
  by_cases h1 : 0 ≤ a ∧ a ≤ 6
  · by_cases h2 : 2 ≤ k ∧ k < 8192
    · rw [decide_eq_true h1] at HT
      rw [decide_eq_true h2] at HK
      have HO : Hid (okT a ∧ okB k) := Lib.hid ⟨h1, h2⟩
      clear h1 h2
      go_enter Try.func31, Try.ntmps31
      go_wp2_with fail
      refine HT.out.mono ?_
      rintro e w' ⟨rfl, hw⟩
      rw [hw]
      clear hw w'
      go_wp2_with fail
      refine HK.out.mono ?_
      rintro e w' ⟨rfl, hw⟩
      rw [hw]
      clear hw w' HT HK
      go_wp2_with fail
      refine (at_any w q g L HX.out hL a k).mono ?_
      rintro e w1 ⟨r, rfl, hr, hb⟩
      have HX1 := Lib.hid (HX.out.next hb)
      have HB1 := Lib.hid hb
      have HR := Lib.hid hr
      clear hb hr
      cases r with
      | some i =>
        have HIN : Hid ((a, k) ∈ L) := Lib.hid (List.mem_of_getElem? (show L[i]? = some (a, k) from HR.out))
        have e0 : decide (atE (some i) ≥ 0) = true := by simp [atE]
        have e1 : decide (0 ≤ atE (some i)) = true := by simp [atE]
        generalize atE (some i) = I at *
        go_wp2_with fail
        all_goals refine bodyPost_ret (by simp [results, Try.results31, go_sem]; rfl) rfl ?_
        all_goals exact ⟨by unfold pneedE; rw [if_pos HO.out, if_pos HIN.out], by unfold pneedL; rw [if_neg (fun h => h.2.2 HIN.out)]; exact XGo.same HX.out HB1.out⟩
      | none =>
        have HIN : Hid ((a, k) ∉ L) := Lib.hid HR.out
        have e0 : decide (atE none ≥ 0) = false := by simp [atE]
        have e1 : decide (0 ≤ atE none) = false := by simp [atE]
        generalize atE none = I at *
        obtain ⟨v, A', c', w2, g', c0, hrun, hfz, hc, hx2, hf, hgn⟩ := HX1.out.push hL a k
        have HRUN := Lib.hid hrun
        have HP : Hid (XGo w q g (L ++ [(a, k)]) (w2.setCell ⟨q, 0, none⟩ (.slice A' (L.length + 1) c'))) := Lib.hid ⟨g', hx2, (Fr.of_below HB1.out (M := QG q g)).trans hf, by rcases hgn with e | e; exact .inl e; exact .inr (Nat.le_trans HB1.out.size e)⟩
        clear hrun hx2 hf hgn HR
        go_wp2_with (at_builtin; refine wpList_app rfl (.tmp 25) (.tmp 29) 41 41 rfl rfl HRUN.out rfl rfl ?_)
        all_goals refine bodyPost_ret (by simp [results, Try.results31, go_sem]; rfl) rfl ?_
        all_goals exact ⟨by unfold pneedE; rw [if_pos HO.out, if_neg HIN.out], by unfold pneedL; rw [if_pos ⟨HO.out.1, HO.out.2, HIN.out⟩]; exact HP.out⟩
    · rw [decide_eq_true h1] at HT
      rw [decide_eq_false h2] at HK
      have HO : Hid (¬ okB k) := Lib.hid h2
      clear h1 h2
      go_enter Try.func31, Try.ntmps31
      go_wp2_with fail
      refine HT.out.mono ?_
      rintro e w' ⟨rfl, hw⟩
      rw [hw]
      clear hw w'
      go_wp2_with fail
      refine HK.out.mono ?_
      rintro e w' ⟨rfl, hw⟩
      rw [hw]
      clear hw w' HT HK
      go_wp2_with fail
      all_goals refine bodyPost_ret (by simp [results, Try.results31, go_sem]; rfl) rfl ?_
      all_goals exact ⟨by unfold pneedE; rw [if_neg (fun h => HO.out h.2)], by unfold pneedL; rw [if_neg (fun h => HO.out h.2.1)]; exact XGo.same HX.out (Below.refl _ _)⟩
  · rw [decide_eq_false h1] at HT
    have HO : Hid (¬ okT a) := Lib.hid h1
    clear h1
    go_enter Try.func31, Try.ntmps31
    go_wp2_with fail
    refine HT.out.mono ?_
    rintro e w' ⟨rfl, hw⟩
    rw [hw]
    clear hw w' HT HK
    go_wp2_with fail
    all_goals refine bodyPost_ret (by simp [results, Try.results31, go_sem]; rfl) rfl ?_
    all_goals exact ⟨by unfold pneedE; rw [if_neg (fun h => HO.out h.1)], by unfold pneedL; rw [if_neg (fun h => HO.out h.1)]; exact XGo.same HX.out (Below.refl _ _)⟩
def PwI (w : World) (m : Nat) (l i : Value) (W : World) : Prop := ∃ n : Nat, n ≤ 7 ∧ i = .int .i64 n ∧ OwnI w.heap.size (whoK n m) l W ∧ Below w.heap.size w W
set_option maxHeartbeats 1000000 in
theorem pwho_any (w : World) (q g : Nat) (L : List Pr) (h : XT w q g L) (hL : L.length ≤ 60000) (k : Int) (m : Nat) (hm : ∀ c : Nat, c < 7 → (((c : Int), k) ∈ L ↔ m.testBit c = true)) :
    Calls Try.prog 37 #[.pointer (some ⟨q, 0, none⟩), .int .i64 k] w fun e w' => ∃ v, e = .returned v ∧ OwnI w.heap.size (whoK 7 m) v w' ∧ Below w.heap.size w w' := by
  have HX := Lib.hid h
  have HM := Lib.hid hm
  clear h hm
  go_enter Try.func37, Try.ntmps37
  go_wp2_with fail
  go_loopw [5, 6] (fun l i wr => PwI w m l i wr) (fun _ i _ => 7 - (intOf i).toNat)
  case atStart => exact ⟨0, by omega, rfl, OwnI.nil _ _, Below.refl _ _⟩
  case round =>
    obtain ⟨n, hn, rfl, ho, hb⟩ := hrel
    have HO := Lib.hid ho
    have HB := Lib.hid hb
    clear ho hb
    by_cases hlt : n < 7
    · have hlt' : (n : Int) ≤ 6 := by omega
      go_wp2_with fail
      refine (at_any wr q g L (HX.out.next HB.out) hL n k).mono ?_
      rintro e w1 ⟨r, rfl, hr, hb⟩
      have HO1 := Lib.hid (HO.out.next hb)
      have HB1 := Lib.hid (bt HB.out hb)
      have HR := Lib.hid hr
      clear hb hr HO HB
      cases r with
      | none =>
        have hp : m.testBit n = false := by
          have := HM.out n hlt
          have h2 : ((n : Int), k) ∉ L := HR.out
          cases hb : m.testBit n with
          | false => rfl
          | true => exact absurd (this.2 hb) h2
        have HC : Hid (whoK (n + 1) m = whoK n m) := Lib.hid (by rw [whoK_succ, hp]; rfl)
        have e0 : decide (atE none ≥ 0) = false := by simp [atE]
        have e1 : decide (0 ≤ atE none) = false := by simp [atE]
        generalize atE none = I at *
        clear hp HR
        go_wp2_with fail
        go_roundw
        case rel => exact ⟨n + 1, by omega, by go_num, by rw [HC.out]; exact HO1.out, HB1.out⟩
        case measure => simp [intOf]; omega
      | some j =>
        have hp : m.testBit n = true := (HM.out n hlt).1 (List.mem_of_getElem? (show L[j]? = some ((n : Int), k) from HR.out))
        have HC : Hid (whoK (n + 1) m = whoK n m ++ [(n : Int)]) := Lib.hid (by rw [whoK_succ, hp]; rfl)
        have e0 : decide (atE (some j) ≥ 0) = true := by simp [atE]
        have e1 : decide (0 ≤ atE (some j)) = true := by simp [atE]
        generalize atE (some j) = I at *
        have HLN : Hid ((whoK n m).length ≤ 7) := Lib.hid (by have := whoK_len n m; omega)
        clear hp HR
        have hnew : RowAt (w1.alloc (.cells #[.int .i64 n] 3)) w1.heap.size 3 [.int .i64 n] := RowAt.new w1 3 _
        obtain ⟨i, z, q1, q2, q3, q4, q5⟩ := info3
        obtain ⟨v', w', hrun, ho', _, _, hb'⟩ := run_app (P := Try.prog) (w1.alloc (.cells #[.int .i64 n] 3)) w.heap.size 26 26 3 i z 8 Try.underlying26 q1 q2 q3 q4 q5 u5 (whoK n m).length _ (HO1.out.alloc _) (some ⟨w1.heap.size, 0, none⟩) 1 1 [.int .i64 n] (SliceAt.row hnew) (fun h => by cases h) (fun u hu => by simp at hu; subst hu; rfl) (by have := HLN.out; unfold maxLen; omega) (by have := HLN.out; omega) (by have := HB1.out.size; simp; omega)
        have HRUN := Lib.hid hrun
        have HO3 : Hid (OwnI w.heap.size (whoK (n + 1) m) v' w') := Lib.hid (by
          rw [HC.out]
          unfold OwnI
          rw [List.length_append, List.map_append]
          exact ho')
        have HB3 := Lib.hid ((HB1.out.alloc HB1.out.size (.cells #[.int .i64 n] 3)).trans hb')
        clear hnew hrun ho' hb' q1 q2 q3 q4 q5
        go_wp2_with (at_builtin; refine wpList_app rfl (.tmp 17) (.tmp 19) 26 26 rfl rfl HRUN.out rfl rfl ?_)
        go_roundw
        case rel => exact ⟨n + 1, by omega, by go_num, HO3.out, HB3.out⟩
        case measure => simp [intOf]; omega
    · obtain rfl : n = 7 := by omega
      go_wp2_with fail
      all_goals refine bodyPost_ret (by simp [results, Try.results37, go_sem]; rfl) rfl ?_
      all_goals exact ⟨_, rfl, HO.out, HB.out⟩
end Go.Proofs.Ytaokogeblpjabaa
