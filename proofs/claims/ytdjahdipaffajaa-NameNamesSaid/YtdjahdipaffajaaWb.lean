/- above's function: an iterator. -/
import Derived.Test.YtdjahdipaffajaaWa
import Derived.Test.YtdjahdipaffajaaRf
import Derived.Maps.OwnIn
namespace Go.Proofs.Ytdjahdipaffajaa
open Go.RowKit Go.Shelf
attribute [local go_sem] Oper.semAt_some
def msz (w : World) (b : Nat) : Nat := match w.heap[b]? with
  | some (.map es _) => es.size
  | _ => 0
theorem getE_mem {es : List MapEntry} {k : Int} : (getE es k).isSome ↔ k ∈ es.map keyI := by
  unfold getE
  rw [Option.isSome_map, List.find?_isSome]
  simp
theorem msz_eq {w : World} {b : Nat} {f : Int → Option Value} {acc : List Int} (h : MapAt w b f) (hn : acc.Nodup) (hf : ∀ k, (f k).isSome ↔ k ∈ acc) : msz w b = acc.length := by
  obtain ⟨es, c, h1, _, h3, h4⟩ := h
  unfold msz
  rw [h1]
  have e1 : es.size = (es.toList.map keyI).length := by simp
  simp only [e1]
  have hiff : ∀ k, k ∈ es.toList.map keyI ↔ k ∈ acc := fun k => by rw [← getE_mem, h4, hf]
  have a := nodup_sub h3 fun k hk => (hiff k).1 hk
  have b := nodup_sub hn fun k hk => (hiff k).2 hk
  omega
def passedV (acc : List Int) (k : Int) : Option Value := if k ∈ acc then some (.int .i64 1) else none
structure AI (l : List (Int × Int)) (R : List Int × Int) (bm bi mb pb : Nat) (J : List Int × Int → World → Prop) (acc : List Int) (cur : Int) (W : World) : Prop where
  cm : RowAt W bm 48 [.map (some mb)]
  mp : MapAt W mb (parV l)
  ci : RowAt W bi 3 [.int .i64 cur]
  ps : MapAt W pb (passedV acc)
  go : Going l R cur acc
  j : J (acc, 0) W
abbrev encU (x : Int × Int) : Array Value := #[.int .i64 x.1, .int .i64 x.2]
abbrev OkU (N : Nat) (R : List Int × Int) (s : List Int × Int) (x : Int × Int) : Prop := s.2 = 0 ∧ s.1.length ≤ N ∧ (x.2 = 0 ∨ (R = (s.1, x.2) ∧ (x.2 = 5 ∨ x.2 = 50)))
abbrev nxtU (s : List Int × Int) (x : Int × Int) (s' : List Int × Int) : Prop := s' = if x.2 = 0 then (s.1 ++ [x.1], 0) else (s.1, x.2)
set_option maxHeartbeats 4000000 in
theorem above_iter (n : Nat) (w : World) (l : List (Int × Int)) (ino : Int) (bm bi mb : Nat) (X : Nat → Prop) (hm : RowAt w bm 48 [.map (some mb)]) (hmp : MapAt w mb (parV l)) (hi : RowAt w bi 3 [.int .i64 ino])
    (hX : ∀ k, X k → k < w.heap.size ∧ k ≠ bm ∧ k ≠ bi ∧ k ≠ mb) (hbb : bm ≠ bi) (hmb : mb ≠ bi) (I : List Int × Int → World → Prop) :
    Iter n Try.prog 27 #[.pointer (some ⟨bm, 0, none⟩), .pointer (some ⟨bi, 0, none⟩)] w encU I (fun s => s = goUp l ino) (OkU l.length (goUp l ino)) nxtU ([], 0) (fun W W' => Fr (fun k => k = bi ∨ w.heap.size + 2 ≤ k) W W') (fun W W' => Fr (fun k => X k ∨ k = w.heap.size + 1) W W') := by
  intro J Jx W1 hb hz hJI hJs hJxs hY h0
  have hmk := @run_makeMap Try.prog
  have lm := hm.lt
  have li := hi.lt
  have lp := hmp.lt
  have HY := Lib.hid hY
  have HJS := Lib.hid hJs
  have HJXS := Lib.hid hJxs
  have HX := Lib.hid hX
  have H0 : Hid (AI l (goUp l ino) bm bi mb W1.heap.size J [] ino (W1.alloc (.map #[] 0))) := Lib.hid (by
    have hal : Below W1.heap.size W1 (W1.alloc (.map #[] 0)) := (Below.refl _ _).alloc (Nat.le_refl _) _
    refine ⟨(hm.below hb hm.lt).next hal, (hmp.fr (M := fun k => w.heap.size ≤ k) ⟨hb.os, hb.tape, hb.output, hb.size, fun k hk hn => hb.block k (by omega)⟩ (by omega)).next hal, (hi.below hb hi.lt).next hal, (MapAt.made W1).ext fun k => by simp [passedV], Going.start l ino, hJs _ _ _ h0 (Fr.of_below hal)⟩)
  obtain ⟨pb, hpb⟩ : ∃ pb, pb = W1.heap.size := ⟨_, rfl⟩
  have hpz : pb = w.heap.size + 2 := hpb.trans hz
  have HPZ := Lib.hid hpz
  rw [← hpb] at H0
  have HPB := Lib.hid hpb
  clear hz hpz hpb
  refine callsIn_of_wp Try.func27 rfl trivial ?_ rfl
  simp only [Try.ntmps27, List.size_toArray, List.length_cons, List.length_nil, Nat.reduceAdd, Nat.reduceSub, Array.replicate_succ, Array.replicate_zero, List.push_toArray, List.append_toArray, List.nil_append, List.cons_append]
  clear hm hmp hi hX hb hJI hJs hJxs hY h0
  gi_wp2
  rw [← HPB.out]
  generalize W1.alloc (.map #[] 0) = W2 at *
  gi_loopw [5] (fun _ wr => ∃ acc cur, AI l (goUp l ino) bm bi mb pb J acc cur wr) (fun _ wr => l.length + 1 - msz wr pb)
  case atStart => exact ⟨_, _, H0.out⟩
  case round =>
    obtain ⟨acc, cur, hA⟩ := hrel
    have HA := Lib.hid hA
    have c1 : wr.cell? ⟨bm, 0, none⟩ = some (.map (some mb)) := hA.cm.cell 0
    have c2 : wr.cell? ⟨bi, 0, none⟩ = some (.int .i64 cur) := hA.ci.cell 0
    have hlk := run_look_ok (P := Try.prog) hA.mp Try.underlying48 Try.underlying3 (.int .i64 0) (zero3 _) cur
    clear hA
    cases hp : par l cur with
    | none =>
      have hpv : parV l cur = none := by unfold parV; rw [hp]; rfl
      rw [hpv] at hlk
      simp only [Option.getD_none, Option.isSome_none] at hlk
      have HLK := Lib.hid hlk
      have HGN : Hid (goUp l ino = (acc, 5)) := Lib.hid (HA.out.go.none hp)
      obtain ⟨fn, tmps, assign, body, hy, hR⟩ := HY.out (acc, 0) (cur, 5) wr HA.out.j ⟨rfl, HA.out.go.len, .inr ⟨HGN.out, .inl rfl⟩⟩
      clear hlk hpv hp
      gi_wp2_with (gi_at_lookup; refine wpListIn_look rfl rfl rfl rfl HLK.out ?_)
      refine ⟨(fun h => by simp [Fence.wide] at h), hR.mono ?_⟩
      rintro e W3 (⟨rfl, ⟨s', hs', hj⟩, hk⟩ | ⟨rfl, hjx⟩)
      · have HJ3 := Lib.hid hj
        have HS3 : Hid (s' = goUp l ino) := Lib.hid (by rw [HGN.out]; simpa [nxtU] using hs')
        clear hj hs' hk
        gi_wp2
        refine bodyPost_ret (results_none rfl _ _ _) rfl ?_
        exact ⟨⟨_, rfl⟩, .inl ⟨s', HS3.out, HJ3.out⟩⟩
      · have HJ3 := Lib.hid hjx
        clear hjx
        gi_wp2
        refine bodyPost_ret (results_none rfl _ _ _) rfl ?_
        exact ⟨⟨_, rfl⟩, .inr HJ3.out⟩
    | some p =>
      have hpv : parV l cur = some (.int .i64 p) := by unfold parV; rw [hp]; rfl
      rw [hpv] at hlk
      simp only [Option.getD_some, Option.isSome_some] at hlk
      have HLK := Lib.hid hlk
      have hlk2 := run_look (P := Try.prog) HA.out.ps Try.underlying48 Try.underlying3 (.int .i64 0) (zero3 _) cur
      have HP := Lib.hid hp
      clear hlk hpv hp
      by_cases hin : cur ∈ acc
      · rw [show passedV acc cur = some (.int .i64 1) from by simp [passedV, hin]] at hlk2
        simp only [Option.getD_some] at hlk2
        have HLK2 := Lib.hid hlk2
        have HGN : Hid (goUp l ino = (acc, 50)) := Lib.hid (HA.out.go.ring HP.out hin)
        obtain ⟨fn, tmps, assign, body, hy, hR⟩ := HY.out (acc, 0) (cur, 50) wr HA.out.j ⟨rfl, HA.out.go.len, .inr ⟨HGN.out, .inr rfl⟩⟩
        clear hlk2 hin
        gi_wp2_with (gi_at_lookup; first | refine wpListIn_look (ok := true) rfl rfl rfl rfl HLK.out ?_ | refine wpListIn_look (ok := false) rfl rfl rfl rfl HLK2.out ?_)
        refine ⟨(fun h => by simp [Fence.wide] at h), hR.mono ?_⟩
        rintro e W3 (⟨rfl, ⟨s', hs', hj⟩, hk⟩ | ⟨rfl, hjx⟩)
        · have HJ3 := Lib.hid hj
          have HS3 : Hid (s' = goUp l ino) := Lib.hid (by rw [HGN.out]; simpa [nxtU] using hs')
          clear hj hs' hk
          gi_wp2
          refine bodyPost_ret (results_none rfl _ _ _) rfl ?_
          exact ⟨⟨_, rfl⟩, .inl ⟨s', HS3.out, HJ3.out⟩⟩
        · have HJ3 := Lib.hid hjx
          clear hjx
          gi_wp2
          refine bodyPost_ret (results_none rfl _ _ _) rfl ?_
          exact ⟨⟨_, rfl⟩, .inr HJ3.out⟩
      · rw [show passedV acc cur = none from by simp [passedV, hin]] at hlk2
        simp only [Option.getD_none] at hlk2
        have HLK2 := Lib.hid hlk2
        have HIN := Lib.hid hin
        clear hlk2 hin
        obtain ⟨U, hrun, mp, hf2, hzU⟩ := run_upd (P := Try.prog) HA.out.ps Try.underlying48 Try.underlying3 cur (.int .i64 1)
        have HRU := Lib.hid hrun
        have hpbm : bm ≠ pb := by have := HPZ.out; omega
        have hpbi : bi ≠ pb := by have := HPZ.out; omega
        have hpmb : mb ≠ pb := by have := HPZ.out; omega
        have HAU : Hid (AI l (goUp l ino) bm bi mb pb J acc cur U) → True := fun _ => trivial
        have u1 := HA.out.cm.fr hf2 hpbm
        have u2 := HA.out.mp.fr hf2 hpmb
        have u3 := HA.out.ci.fr hf2 hpbi
        have u4 : MapAt U pb (passedV (acc ++ [cur])) := mp.ext fun k => by
          unfold passedV
          by_cases e : k = cur
          · subst e; simp
          · rw [if_neg e]; simp [e]
        have uj : J (acc, 0) U := HJS.out _ _ _ HA.out.j (hf2.mono fun k _ e => .inr (by have := HPZ.out; have : k = pb := e; omega))
        have c3 : U.cell? ⟨bi, 0, none⟩ = some (.int .i64 cur) := u3.cell 0
        have U1 := Lib.hid u1
        have U2 := Lib.hid u2
        have U3 := Lib.hid u3
        have U4 := Lib.hid u4
        obtain ⟨fn, tmps, assign, body, hy, hR⟩ := HY.out (acc, 0) (cur, 0) U uj ⟨rfl, HA.out.go.len, .inl rfl⟩
        clear hrun mp hf2 HAU u1 u2 u3 u4 uj hzU
        gi_wp2_with (first | (gi_at_lookup; first | refine wpListIn_look (ok := true) rfl rfl rfl rfl HLK.out ?_ | refine wpListIn_look (ok := false) rfl rfl rfl rfl HLK2.out ?_) | (gi_at_mapUpdate; refine wpListIn_upd rfl rfl rfl rfl rfl HRU.out ?_))
        refine ⟨(fun h => by simp [Fence.wide] at h), hR.mono ?_⟩
        rintro e W3 (⟨rfl, ⟨s', hs', hj⟩, hk⟩ | ⟨rfl, hjx⟩)
        · simp only [nxtU, if_true] at hs'
          subst hs'
          have hxb : ∀ k, (k = bm ∨ k = bi ∨ k = mb ∨ k = pb) → ¬ (X k ∨ k = w.heap.size + 1) := by
            rintro k hk (hx | hx)
            · have := HX.out k hx; have := HPZ.out; omega
            · have := HPZ.out; omega
          have v1 := U1.out.fr hk (hxb _ (.inl rfl))
          have v2 := U2.out.fr hk (hxb _ (.inr (.inr (.inl rfl))))
          have v3 := U3.out.fr hk (hxb _ (.inr (.inl rfl)))
          have v4 := U4.out.fr hk (hxb _ (.inr (.inr (.inr rfl))))
          have V1 := Lib.hid v1
          have V2 := Lib.hid v2
          have V3 := Lib.hid v3
          have V4 := Lib.hid v4
          have VJ := Lib.hid hj
          have c4 : W3.cell? ⟨bi, 0, none⟩ = some (.int .i64 cur) := v3.cell 0
          have f4 : W3.frozen? ⟨bi, 0, none⟩ = false := v3.free 0
          clear v1 v2 v3 v4 hj hk hxb
          by_cases hpe : p = cur
          · have HGN : Hid (goUp l ino = (acc ++ [cur], 0)) := Lib.hid (HA.out.go.root (by rw [HP.out, hpe]) HIN.out)
            subst hpe
            gi_wp2
            refine bodyPost_ret (results_none rfl _ _ _) rfl ?_
            exact ⟨⟨_, rfl⟩, .inl ⟨_, HGN.out.symm, VJ.out⟩⟩
          · have HGS := Lib.hid (HA.out.go.step HP.out HIN.out hpe)
            have hpb : (p == cur) = false := by simpa using hpe
            have HNE := Lib.hid hpe
            clear hpe
            gi_wp2
            go_roundw
            case rel =>
              have hfs : Fr (fun k => k = bi ∨ w.heap.size + 2 ≤ k) W3 (W3.setCell ⟨bi, 0, none⟩ (.int .i64 p)) := (Fr.refl _ _).setCell (.inl rfl) _
              have hfb : Fr (fun k => k = bi) W3 (W3.setCell ⟨bi, 0, none⟩ (.int .i64 p)) := (Fr.refl (fun k => k = bi) W3).setCell rfl _
              exact ⟨acc ++ [cur], p, V1.out.fr hfb hbb, V2.out.fr hfb hmb, V3.out.set 0 _, V4.out.fr hfb (fun e => hpbi e.symm), HGS.out, HJS.out _ _ _ VJ.out hfs⟩
            case measure =>
              have hfb : Fr (fun k => k = bi) W3 (W3.setCell ⟨bi, 0, none⟩ (.int .i64 p)) := (Fr.refl (fun k => k = bi) W3).setCell rfl _
              have e1 := msz_eq (V4.out.fr hfb (fun e => hpbi e.symm)) HGS.out.nd (fun k => by unfold passedV; split <;> simp_all)
              have e2 := msz_eq HA.out.ps HA.out.go.nd (fun k => by unfold passedV; split <;> simp_all)
              have h1 := HGS.out.len
              rw [e1, e2]
              simp at h1 ⊢
              omega
        · have HJ3 := Lib.hid hjx
          clear hjx
          gi_wp2
          refine bodyPost_ret (results_none rfl _ _ _) rfl ?_
          exact ⟨⟨_, rfl⟩, .inr HJ3.out⟩
end Go.Proofs.Ytdjahdipaffajaa
