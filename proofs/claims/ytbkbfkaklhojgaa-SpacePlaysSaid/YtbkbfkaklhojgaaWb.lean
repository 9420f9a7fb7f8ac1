/- The function that 'of' makes: an iterator. -/
import Derived.Test.YtbkbfkaklhojgaaWa
import Derived.Test.YtbkbfkaklhojgaaRf
import Derived.Maps.OwnIn
import Derived.Stop.RegionWithIn
import Derived.BigRegionIn
import Derived.Sort.BigQuietIn
namespace Go.Proofs.Ytbkbfkaklhojgaa
open Go.RowKit Go.Shelf
attribute [local go_sem] Oper.semAt_some
structure Sc where
  k : Nat
  f : Nat → Nat
  c : Nat → Int
  last : Int
abbrev FinS (N want : Nat) (s : Sc) : Prop := ∀ i, s.k ≤ i → i < N → s.f i ≠ want
abbrev OkS (N want : Nat) (s : Sc) (x : Nat) : Prop := s.k ≤ x ∧ x < N ∧ s.f x = want ∧ ∀ i, s.k ≤ i → i < x → s.f i ≠ want
abbrev encN (x : Nat) : Array Value := #[.int .i64 x]
structure OI (b bs bw ba N want : Nat) (above : Int) (J : Sc → World → Prop) (k : Nat) (W : World) : Prop where
  cs : RowAt W bs 25 [.pointer (some ⟨b, 0, none⟩)]
  cw : RowAt W bw 48 [.int .u8 want]
  ca : RowAt W ba 3 [.int .i64 above]
  j : ∃ s, J s W ∧ s.k ≤ k ∧ ∀ i, s.k ≤ i → i < k → s.f i ≠ want
def OR (b bs bw ba N want : Nat) (above : Int) (J : Sc → World → Prop) (i : Value) (W : World) : Prop := ∃ k : Nat, k ≤ 10000 ∧ i = .int .i64 k ∧ OI b bs bw ba N want above J k W
theorem yes_no {e : Ending} {A B : Prop} (h : (e = .returned (.bool true) ∧ A) ∨ (e = .returned (.bool false) ∧ B)) : ∃ vb : Bool, e = .returned (.bool vb) ∧ (vb = true → A) ∧ (vb = false → B) := by
  rcases h with ⟨h1, h2⟩ | ⟨h1, h2⟩
  · exact ⟨true, h1, fun _ => h2, fun h => by cases h⟩
  · exact ⟨false, h1, (fun h => by cases h), fun _ => h2⟩
set_option maxRecDepth 65000 in
set_option maxHeartbeats 4000000 in
theorem of_iter (n : Nat) (w : World) (b bs bw ba N want : Nat) (above : Int) (X : Nat → Prop) (hs : RowAt w bs 25 [.pointer (some ⟨b, 0, none⟩)]) (hw : RowAt w bw 48 [.int .u8 want]) (ha : RowAt w ba 3 [.int .i64 above])
    (hX : ∀ k, X k → k < w.heap.size ∧ k ≠ bs ∧ k ≠ bw ∧ k ≠ ba) (hN : N ≤ 8192) (hwt : want < 4) (ha0 : -1 ≤ above) (ha1 : above ≤ 8192)
    (I : Sc → World → Prop) (hI : ∀ s W, I s W → SpAt W b N s.last s.f s.c) (nxt : Sc → Nat → Sc → Prop) (hnx : ∀ s x s', nxt s x s' → s'.k = x + 1) (s0 : Sc) (hk0 : (s0.k : Int) = max (above + 1) 2) (hc0 : s0.c want = 0 → FinS N want s0) :
    Iter n Try.prog 32 #[.pointer (some ⟨bs, 0, none⟩), .pointer (some ⟨bw, 0, none⟩), .pointer (some ⟨ba, 0, none⟩)] w encN I (FinS N want) (OkS N want) nxt s0 (fun W W' => Fr (fun _ => False) W W') (fun W W' => Fr (fun k => X k ∨ k = w.heap.size + 1) W W') := by
  intro J Jx W1 hb hz hJI hJs hJxs hY h0
  have ls := hs.lt
  have lw := hw.lt
  have la := ha.lt
  have HY := Lib.hid hY
  have HJS := Lib.hid hJs
  have HJXS := Lib.hid hJxs
  have HJI := Lib.hid hJI
  have HI := Lib.hid hI
  have HX := Lib.hid hX
  have HN := Lib.hid hnx
  have HC0 := Lib.hid hc0
  have HK0 := Lib.hid hk0
  have H1 : Hid (OI b bs bw ba N want above J s0.k W1) := Lib.hid ⟨hs.below hb hs.lt, hw.below hb hw.lt, ha.below hb ha.lt, s0, h0, Nat.le_refl _, fun i h1 h2 => by omega⟩
  have H0 := Lib.hid h0
  have c1 : W1.cell? ⟨bs, 0, none⟩ = some (.pointer (some ⟨b, 0, none⟩)) := H1.out.cs.cell 0
  have c2 : W1.cell? ⟨bw, 0, none⟩ = some (.int .u8 want) := H1.out.cw.cell 0
  have c3 : W1.cell? ⟨ba, 0, none⟩ = some (.int .i64 above) := H1.out.ca.cell 0
  obtain ⟨L, hr, hl⟩ := hI _ _ (hJI _ _ h0)
  have c4 := (hr.cell (8194 + want)).trans (hl.ct want hwt)
  have w0 : (0 : Int) ≤ (want : Int) := by omega
  have w1 : (want : Int) < 4 := by omega
  clear hb hz hJI hJs hJxs hY h0 hI hX hnx hc0 hk0 hs hw ha hr hl
  refine callsIn_of_wp Try.func32 rfl trivial ?_ rfl
  simp only [Try.ntmps32, List.size_toArray, List.length_cons, List.length_nil, Nat.reduceAdd, Nat.reduceSub, Array.replicate_succ, Array.replicate_zero, List.push_toArray, List.append_toArray, List.nil_append, List.cons_append]
  by_cases hc : s0.c want = 0
  · have HF := Lib.hid (HC0.out hc)
    rw [hc] at c4
    clear hc
    gi_wp2_with fail
    gi_region
    gi_wp2_with fail
    refine bodyPost_ret (results_none rfl _ _ _) rfl ?_
    exact ⟨⟨_, rfl⟩, .inl ⟨s0, HF.out, HJS.out _ _ _ H0.out (Fr.refl _ _).drew⟩⟩
  · have hcb : (s0.c want == 0) = false := by simpa using hc
    clear hc HC0
    gi_wp2_with fail
    gi_region
    have H2 : Hid (OI b bs bw ba N want above J s0.k W1.drew) := Lib.hid ⟨H1.out.cs.drew, H1.out.cw.drew, H1.out.ca.drew, s0, HJS.out _ _ _ H0.out (Fr.refl _ _).drew, Nat.le_refl _, fun i h1 h2 => by omega⟩
    have d3 : W1.drew.cell? ⟨ba, 0, none⟩ = some (.int .i64 above) := H2.out.ca.cell 0
    clear c1 c2 c3 c4 H1 H0 hcb
    generalize W1.drew = W2 at *
    generalize 8194 + want = ow at *
    gi_wp2_with fail
    all_goals
      gi_loopw [5] (fun i wr => OR b bs bw ba N want above J i wr) (fun i _ => N - (intOf i).toNat)
      case atStart => exact ⟨s0.k, by have := HK0.out; omega, by congr 1; have := HK0.out; omega, H2.out⟩
      case round =>
        obtain ⟨k, hk, rfl, hO⟩ := hrel
        have HO := Lib.hid hO
        obtain ⟨s, hj, hsk, hno⟩ := hO.j
        have HJ := Lib.hid hj
        have HNO := Lib.hid hno
        have c1 : wr.cell? ⟨bs, 0, none⟩ = some (.pointer (some ⟨b, 0, none⟩)) := hO.cs.cell 0
        have c2 : wr.cell? ⟨bw, 0, none⟩ = some (.int .u8 want) := hO.cw.cell 0
        obtain ⟨L, hr, hl⟩ := HI.out _ _ (HJI.out _ _ hj)
        have c5 := (hr.cell 0).trans hl.n
        clear d3 hO hj hno
        by_cases hlt : k < N
        · have hlt' : (k : Int) < (N : Int) := by omega
          have k0 : (0 : Int) ≤ (k : Int) := by omega
          have k1 : (k : Int) < 8192 := by omega
          have c6 := (hr.cell (2 + k)).trans (hl.is k (by omega))
          clear hr hl
          by_cases hfk : s.f k = want
          · obtain ⟨fn, tmps, assign, body, hy, hR⟩ := HY.out s k wr.drew (HJS.out _ _ _ HJ.out (Fr.refl _ _).drew) ⟨hsk, hlt, hfk, HNO.out⟩
            rw [hfk] at c6
            gi_wp2_with fail
            gi_region_with (refine ⟨(fun h => by simp [Fence.wide] at h), hR.mono ?_⟩; intro e W3 hor; obtain ⟨vb, rfl, hv⟩ := yes_no hor)
            all_goals
              clear c1 c2 c5 c6 hy hR
              generalize 2 + k = ok at *
              cases vb with
              | true =>
                   obtain ⟨⟨s', hs', hj⟩, hkp⟩ := hv.1 rfl
                   clear hv
                   have HJ3 := Lib.hid hj
                   have HS3 := Lib.hid hs'
                   have HK3 := Lib.hid hkp
                   clear hj hs' hkp
                   simp only [Bool.not_true, List.getElem_toArray, List.getElem_cons_succ, List.getElem_cons_zero]
                   go_simp
                   gi_wp2_with fail
                   go_roundw
                   case rel =>
                     have hnx : ∀ j, (j = bs ∨ j = bw ∨ j = ba) → ¬ (X j ∨ j = w.heap.size + 1) := by
                       rintro j hj (hx | hx)
                       · have := HX.out j hx; omega
                       · omega
                     exact ⟨k + 1, by omega, by go_num, HO.out.cs.drew.fr HK3.out (hnx _ (.inl rfl)), HO.out.cw.drew.fr HK3.out (hnx _ (.inr (.inl rfl))), HO.out.ca.drew.fr HK3.out (hnx _ (.inr (.inr rfl))), s', HJ3.out, by rw [HN.out _ _ _ HS3.out]; exact Nat.le_refl _, fun i h1 h2 => by rw [HN.out _ _ _ HS3.out] at h1; omega⟩
                   case measure => simp [intOf]; omega
              | false =>
                   have HJ3 := Lib.hid (hv.2 rfl)
                   clear hv
                   simp only [Bool.not_false, List.getElem_toArray, List.getElem_cons_succ, List.getElem_cons_zero]
                   go_simp
                   gi_wp2_with fail
                   refine bodyPost_ret (results_none rfl _ _ _) rfl ?_
                   exact ⟨⟨_, rfl⟩, .inr HJ3.out⟩
          · have HFK := Lib.hid hfk
            obtain ⟨x, hx⟩ : ∃ x, x = s.f k := ⟨_, rfl⟩
            rw [← hx] at c6 hfk
            have hfb : ((x : Int) == (want : Int)) = false := by simp; omega
            clear hx
            gi_wp2_with fail
            refine wpIn_region_quiet_lit rfl (by kernel_rfl) (by kernel_rfl) ?_
            repeat (gi_big_quiet_step (fail))
            refine BigFrame.wpQuietIn_skip ?_ rfl ?_
            · exact fun _ _ _ _ => trivial
            go_simp
            repeat (gi_big_quiet_step (fail))
            refine wpQuietIn_nil ?_
            intro m
            clear c1 c2 c5 c6 hfb
            generalize 2 + k = ok at *
            have HD : Hid (Fr (fun _ => False) wr (wr.drewN m)) := Lib.hid (Fr.of_below (below_drewN (Below.refl _ _) m))
            generalize wr.drewN m = wr2 at *
            gi_wp2_with fail
            go_roundw
            case rel =>
              exact ⟨k + 1, by omega, by go_num, HO.out.cs.fr HD.out id, HO.out.cw.fr HD.out id, HO.out.ca.fr HD.out id, s, HJS.out _ _ _ HJ.out HD.out, by omega, fun i h1 h2 => by
                by_cases e : i = k
                · subst e; exact HFK.out
                · exact HNO.out i h1 (by omega)⟩
            case measure => simp [intOf]; omega
        · have hge : decide ((k : Int) < (N : Int)) = false := by simp; omega
          have hge2 : (N : Int) ≤ (k : Int) := by omega
          have HFIN : Hid (FinS N want s) := Lib.hid (fun i h1 h2 => HNO.out i h1 (by omega))
          clear hr hl hlt
          gi_wp2_with fail
          go_end0
          exact ⟨⟨_, rfl⟩, .inl ⟨s, HFIN.out, HJ.out⟩⟩
end Go.Proofs.Ytbkbfkaklhojgaa
