/- The document's Passed, Depth and Moves. -/
import Derived.Test.YtdjahdipaffajaaWe
namespace Go.Proofs.Ytdjahdipaffajaa
open Go.RowKit
theorem par_take {l : List (Int × Int)} {k : Nat} {u : Int × Int} (hu : l[k]? = some u) {ino : Int} (h : par (l.take k) ino = none) : par (l.take (k + 1)) ino = if ino = u.1 then some u.2 else none := by
  rw [List.take_add_one, hu]
  simp only [Option.toList_some, par_snoc, h]
theorem par_more {l : List (Int × Int)} {k : Nat} {ino p : Int} (h : par (l.take k) ino = some p) : par l ino = some p := by
  unfold par at *
  conv => lhs; rw [← List.take_append_drop k l]
  rw [List.find?_append]
  obtain ⟨u, hu, hp⟩ := Option.map_eq_some_iff.1 h
  rw [hu]; simpa using hp
theorem UpsAt.next' {w w' : World} {a : Option Addr} {n : Nat} {l : List (Int × Int)} (h : UpsAt w a n l) (hb : Below w.heap.size w w') : UpsAt w' a n l := h.next hb
def RpInv (l : List (Int × Int)) (ino : Int) (i : Value) : Prop := ∃ k : Nat, k ≤ l.length ∧ i = .int .i64 k ∧ par (l.take k) ino = none
theorem refpar_any (w : World) (a : Option Addr) (n cap : Nat) (l : List (Int × Int)) (hs : UpsAt w a n l) (hn : n ≤ 1000) (ino : Int) :
    Calls Try.prog 28 #[.slice a n cap, .int .i64 ino] w fun e w' => e = .returned (.tuple #[.int .i64 ((par l ino).getD 0), .bool (par l ino).isSome]) ∧ w = w' := by
  have HS := Lib.hid hs
  clear hs
  go_enter Try.func28, Try.ntmps28
  go_wp2_with fail
  go_loop [6] (fun i => RpInv l ino i) (fun i => n - (intOf i).toNat)
  case atStart => exact ⟨0, by omega, rfl, rfl⟩
  case round =>
    obtain ⟨k, hk, rfl, hp⟩ := hrel
    rw [HS.out.1] at hk
    have HP := Lib.hid hp
    clear hp
    by_cases hlt : k < n
    · obtain ⟨b1, o1, rfl, l1, hcs⟩ := HS.out.get k hlt
      have hll : k < l.length := by have := HS.out.1; omega
      obtain ⟨u, hu⟩ : ∃ u, l[k]? = some u := ⟨l[k], List.getElem?_eq_getElem _⟩
      obtain ⟨d1, d2⟩ := hcs k u hu
      have HPT := Lib.hid (par_take hu HP.out)
      obtain ⟨ux, uy⟩ := u
      simp only at d1 d2 HPT
      clear hu hcs hll
      by_cases hx : ux = ino
      · subst hx
        have HR : Hid (par l ux = some uy) := Lib.hid (par_more (k := k + 1) (by rw [HPT.out]; simp))
        go_wp2_with fail
        go_ret2
        rw [HR.out]
        exact ⟨rfl, rfl⟩
      · have hxb : (ux == ino) = false := by simpa using hx
        have HX := Lib.hid hx
        clear hx
        go_wp2_with fail
        go_round
        case rel => exact ⟨k + 1, by have := HS.out.1; omega, by go_num, by rw [HPT.out, if_neg (fun e => HX.out e.symm)]⟩
        case measure => simp [intOf]; omega
    · obtain rfl : k = n := by omega
      have hp := HP.out
      rw [List.take_of_length_le (by have := HS.out.1; omega)] at hp
      have HR := Lib.hid hp
      clear hp
      go_wp2_with fail
      go_ret2
      rw [HR.out]
      exact ⟨rfl, rfl⟩
theorem par_of_mem {l : List (Int × Int)} {k : Int} (h : k ∈ l.map (·.1)) : ∃ p, par l k = some p := by
  obtain ⟨u, hu, rfl⟩ := List.mem_map.1 h
  unfold par
  cases hf : l.find? fun v => v.1 == u.1 with
  | none =>
    rw [List.find?_eq_none] at hf
    exact absurd (by simp) (hf u hu)
  | some v => exact ⟨v.2, rfl⟩
theorem info3 : ∃ i z, Try.prog.info? 3 = some i ∧ i.zero = some z ∧ i.size = 1 ∧ i.bytes = 8 ∧ z.cells.size = 1 := ⟨_, _, rfl, rfl, rfl, rfl, rfl⟩
/-- A slice of numbers. -/
def IntsV (l : List Int) (v : Value) (w : World) : Prop := ∃ a cap, v = .slice a l.length cap ∧ SliceAt w a l.length (l.map I64)
def slen : Value → Nat
  | .slice _ n _ => n
  | _ => 0
def PsInv (w : World) (l : List (Int × Int)) (R : List Int × Int) (ino out : Value) (wr : World) : Prop := ∃ acc cur, Going l R cur acc ∧ cur ∉ acc ∧ ino = .int .i64 cur ∧ wr.ownsRow w.heap.size 3 1 out (acc.length + 1) ((acc ++ [cur]).map I64) ∧ Below w.heap.size w wr
def PsIn2 (L : List Int) (p : Int) (i : Value) : Prop := ∃ j : Nat, j ≤ L.length ∧ i = .int .i64 j ∧ ∀ x ∈ L.take j, x ≠ p
def PassPost (w : World) (R : List Int × Int) (e : Ending) (w' : World) : Prop := ∃ v, e = .returned (.tuple #[v, .int .i64 R.2]) ∧ (R.2 = 0 → IntsV R.1 v w') ∧ Below w.heap.size w w'
set_option maxHeartbeats 4000000 in
theorem passed_any (w : World) (a : Option Addr) (n cap : Nat) (l : List (Int × Int)) (hs : UpsAt w a n l) (hn : n ≤ 1000) (ino : Int) :
    Calls Try.prog 24 #[.slice a n cap, .int .i64 ino] w (PassPost w (goUp l ino)) := by
  have HS := Lib.hid hs
  have hln : l.length ≤ 1000 := by rw [hs.1]; exact hn
  clear hs
  go_enter Try.func24, Try.ntmps24
  go_wp2_with fail
  have HO0 : Hid ((w.alloc (.cells #[.int .i64 ino] 3)).ownsRow w.heap.size 3 1 (.slice (some ⟨w.heap.size, 0, none⟩) 1 1) 1 [.int .i64 ino]) := Lib.hid (World.ownsRow_lit (base := w.heap.size) (e := 3) (size := 1) w #[.int .i64 ino] 1 (Nat.le_refl _) (by unfold maxLen; omega) rfl)
  have HB0 := Lib.hid ((Below.refl w.heap.size w).alloc (Nat.le_refl _) (.cells #[.int .i64 ino] 3))
  generalize w.alloc (.cells #[.int .i64 ino] 3) = W0 at *
  obtain ⟨v0, hv0⟩ : ∃ v, v = Value.slice (some ⟨w.heap.size, 0, none⟩) 1 1 := ⟨_, rfl⟩
  rw [← hv0] at HO0 ⊢
  clear hv0
  go_loopw [1, 6] (fun i out wr => PsInv w l (goUp l ino) i out wr) (fun _ out _ => l.length + 2 - slen out)
  case atStart => exact ⟨[], ino, Going.start l ino, by simp, rfl, HO0.out, HB0.out⟩
  case round =>
    obtain ⟨acc, cur, hg, hnm, rfl, ho, hb⟩ := hrel
    have HG := Lib.hid hg
    have HNM := Lib.hid hnm
    have HO := Lib.hid ho
    have HB := Lib.hid hb
    have hal := hg.len
    clear hg hnm hb
    obtain ⟨A, c, rfl, hsl⟩ := SliceAt.owned ho
    have HSL := Lib.hid hsl
    clear ho hsl
    have HPA := Lib.hid (refpar_any wr a n cap l (HS.out.next' HB.out) hn cur)
    go_wp2_with fail
    refine HPA.out.mono ?_
    rintro e w1 ⟨rfl, rfl⟩
    cases hp : par l cur with
    | none =>
      have HR : Hid (goUp l ino = (acc, 5)) := Lib.hid (HG.out.none hp)
      clear hp HPA
      simp only [Option.getD_none, Option.isSome_none]
      go_wp2_with fail
      refine bodyPost_ret (by simp [results, Try.results24, go_sem]; rfl) rfl ?_
      refine ⟨.slice none 0 0, by rw [HR.out], fun h => ?_, HB.out⟩
      rw [HR.out] at h; cases h
    | some p =>
      simp only [Option.getD_some, Option.isSome_some]
      have HP := Lib.hid hp
      clear hp HPA
      by_cases hpe : p = cur
      · have HR : Hid (goUp l ino = (acc ++ [cur], 0)) := Lib.hid (HG.out.root (by rw [HP.out, hpe]) HNM.out)
        subst hpe
        go_wp2_with fail
        refine bodyPost_ret (by simp [results, Try.results24, go_sem]; rfl) rfl ?_
        refine ⟨.slice A (acc.length + 1) c, by rw [HR.out], fun _ => ?_, HB.out⟩
        rw [HR.out]
        exact ⟨A, c, by simp, by simpa using HSL.out⟩
      · have hpb : (p == cur) = false := by simpa using hpe
        have HPE := Lib.hid hpe
        clear hpe
        have HGS := Lib.hid (HG.out.step HP.out HNM.out HPE.out)
        go_wp2_with fail
        obtain ⟨wo, hwo⟩ : ∃ wo : World, wo = wr := ⟨_, rfl⟩
        rw [← hwo]
        have HWO := Lib.hid hwo
        clear hwo
        go_loop [9] (fun i => PsIn2 (acc ++ [cur]) p i) (fun i => acc.length + 1 - (intOf i).toNat)
        case atStart => exact ⟨0, by omega, rfl, by simp⟩
        case round =>
          obtain ⟨j, hj, rfl, hno⟩ := hrel
          have HNO := Lib.hid hno
          clear hno
          simp at hj
          by_cases hlj : j < acc.length + 1
          · obtain ⟨b1, o1, rfl, l1, q1⟩ := HSL.out.get j hlj
            obtain ⟨x, hx⟩ : ∃ x, (acc ++ [cur])[j]? = some x := ⟨(acc ++ [cur])[j]'(by simp; omega), List.getElem?_eq_getElem _⟩
            rw [List.getElem?_map, hx] at q1
            have d1 : wo.cell? ⟨b1, o1 + j, none⟩ = some (.int .i64 x) := by rw [HWO.out]; exact q1
            have HX := Lib.hid hx
            clear q1 hx
            by_cases hxp : x = p
            · have HR : Hid (goUp l ino = (acc ++ [cur], 50)) := Lib.hid (by
                have hm : p ∈ acc ++ [cur] := hxp ▸ List.mem_of_getElem? HX.out
                obtain ⟨q, hq⟩ := par_of_mem (HGS.out.sub p hm)
                exact HGS.out.ring hq hm)
              subst hxp
              go_wp2_with fail
              refine bodyPost_ret (by simp [results, Try.results24, go_sem]; rfl) rfl ?_
              refine ⟨.slice none 0 0, by rw [HR.out], fun h => ?_, by rw [HWO.out]; exact HB.out⟩
              rw [HR.out] at h; cases h
            · have hxb : (x == p) = false := by simpa using hxp
              have HXP := Lib.hid hxp
              clear hxp
              go_wp2_with fail
              go_round
              case rel =>
                refine ⟨j + 1, by simp; omega, by go_num, fun y hy => ?_⟩
                rw [List.take_add_one, HX.out] at hy
                rcases List.mem_append.1 hy with hy | hy
                · exact HNO.out y hy
                · simp at hy; subst hy; exact HXP.out
              case measure => simp [intOf]; omega
          · obtain rfl : j = acc.length + 1 := by omega
            have HNP : Hid (p ∉ acc ++ [cur]) := Lib.hid (fun hm => by
              have := HNO.out p (by rw [List.take_of_length_le (by simp)]; exact hm)
              exact this rfl)
            clear HNO
            have HRW : Hid (RowAt (wo.alloc (.cells #[.int .i64 p] 3)) wo.heap.size 3 [.int .i64 p]) := Lib.hid (RowAt.new wo 3 _)
            have HB2 := Lib.hid ((Below.refl wo.heap.size wo).alloc (Nat.le_refl _) (.cells #[.int .i64 p] 3))
            have HBo : Hid (Below w.heap.size w wo) := Lib.hid (by rw [HWO.out]; exact HB.out)
            have HOo : Hid (wo.ownsRow w.heap.size 3 1 (.slice A (acc.length + 1) c) (acc.length + 1) ((acc ++ [cur]).map I64)) := Lib.hid (by rw [HWO.out]; exact HO.out)
            have HB3 := Lib.hid (HBo.out.trans (HB2.out.mono HBo.out.size))
            obtain ⟨i0, z0, e1, e2, e3, e4, e5⟩ := info3
            obtain ⟨v', w', hrun, ho', hb'⟩ := run_app1 (P := Try.prog) (wo.alloc (.cells #[.int .i64 p] 3)) w.heap.size 51 51 3 i0 z0 1 8 Try.underlying51 e1 e2 e3 e4 e5 (by decide) _ (acc.length + 1) _ (owns_next HOo.out HB2.out) wo.heap.size 3 1 [.int .i64 p] HRW.out rfl (by simp [Value.oneCell']) (by unfold maxLen; omega) (by omega) HB3.out.size
            have HRUN := Lib.hid hrun
            have HO2 := Lib.hid ho'
            have HB4 := Lib.hid (HB3.out.trans hb')
            clear hrun ho' hb' e1 e2 e3 e4 e5
            go_wp2_with (at_builtin; refine wpList_app rfl (.tmp 36) (.tmp 38) 51 51 rfl rfl HRUN.out rfl rfl ?_)
            go_roundw
            case rel =>
              refine ⟨acc ++ [cur], p, HGS.out, HNP.out, rfl, ?_, HB4.out⟩
              have := HO2.out
              simpa [I64] using this
            case measure =>
              have h1 : slen v' = acc.length + 1 + 1 := by
                obtain ⟨A', c', rfl, _⟩ := SliceAt.owned HO2.out
                rfl
              have h2 := HGS.out.len
              simp at h2
              simp [h1]
              simp [slen]
              omega
theorem refdepth_any (w : World) (a : Option Addr) (n cap : Nat) (l : List (Int × Int)) (hs : UpsAt w a n l) (hn : n ≤ 1000) (ino : Int) :
    Calls Try.prog 11 #[.slice a n cap, .int .i64 ino] w fun e w' => e = .returned (.tuple #[.int .i64 (depN (goUp l ino)), .int .i64 (goUp l ino).2]) ∧ Below w.heap.size w w' := by
  have HP := Lib.hid (passed_any w a n cap l hs hn ino)
  have hle : (goUp l ino).1.length ≤ 1001 ∨ (goUp l ino).2 ≠ 0 := by
    by_cases h : (goUp l ino).2 = 0
    · left
      have hp := path_goUp (l := l) (x := ino) (A := (goUp l ino).1) (by rw [← h])
      have := nodup_sub (b := l.map (·.1)) hp.nodup fun y hy => by
        obtain ⟨p, hp⟩ := hp.some y hy
        exact par_mem hp
      simp at this
      have := hs.1
      omega
    · exact .inr h
  clear hs
  obtain ⟨R, hR⟩ : ∃ R, R = goUp l ino := ⟨_, rfl⟩
  rw [← hR] at HP hle ⊢
  clear hR
  obtain ⟨L, er⟩ := R
  simp only at HP hle ⊢
  go_enter Try.func11, Try.ntmps11
  go_wp2_with fail
  refine HP.out.mono ?_
  rintro e w1 ⟨v, rfl, hv, hb⟩
  have HB := Lib.hid hb
  clear hb
  by_cases h0 : er = 0
  · subst h0
    obtain ⟨A, c, rfl, _⟩ := hv rfl
    have hl : L.length ≤ 1001 := by simpa using hle
    clear hv hle
    go_wp2_with fail
    go_ret2
    exact ⟨by simp [depN], HB.out⟩
  · have h1 : (er == 0) = false := by simpa using h0
    have h2 : (er != 0) = true := by simpa using h0
    have H0 := Lib.hid h0
    clear hv hle h0
    go_wp2_with fail
    go_ret2
    exact ⟨by simp [depN, H0.out], HB.out⟩
def RmInv (L : List Int) (ino : Int) (i : Value) : Prop := ∃ j : Nat, j ≤ L.length ∧ i = .int .i64 j ∧ ∀ x ∈ L.take j, x ≠ ino
set_option maxHeartbeats 1000000 in
theorem refmoves_any (w : World) (a : Option Addr) (n cap : Nat) (l : List (Int × Int)) (hs : UpsAt w a n l) (hn : n ≤ 1000) (ino to : Int) :
    Calls Try.prog 13 #[.slice a n cap, .int .i64 ino, .int .i64 to] w fun e w' => e = .returned (.int .i64 (movE (goUp l to) ino)) ∧ Below w.heap.size w w' := by
  have HP := Lib.hid (passed_any w a n cap l hs hn to)
  have hle : (goUp l to).1.length ≤ 1001 ∨ (goUp l to).2 ≠ 0 := by
    by_cases h : (goUp l to).2 = 0
    · left
      have hp := path_goUp (l := l) (x := to) (A := (goUp l to).1) (by rw [← h])
      have := nodup_sub (b := l.map (·.1)) hp.nodup fun y hy => by
        obtain ⟨p, hp⟩ := hp.some y hy
        exact par_mem hp
      simp at this
      have := hs.1
      omega
    · exact .inr h
  clear hs
  obtain ⟨R, hR⟩ : ∃ R, R = goUp l to := ⟨_, rfl⟩
  rw [← hR] at HP hle ⊢
  clear hR
  obtain ⟨L, er⟩ := R
  simp only at HP hle ⊢
  go_enter Try.func13, Try.ntmps13
  go_wp2_with fail
  refine HP.out.mono ?_
  rintro e w1 ⟨v, rfl, hv, hb⟩
  have HB := Lib.hid hb
  clear hb
  by_cases h0 : er = 0
  · subst h0
    obtain ⟨A, c, rfl, hsl⟩ := hv rfl
    have HSL := Lib.hid hsl
    have hl : L.length ≤ 1001 := by simpa using hle
    obtain ⟨m, hm⟩ : ∃ m, m = L.length := ⟨_, rfl⟩
    rw [← hm] at HSL hl ⊢
    have HM := Lib.hid hm
    clear hv hle hsl hm
    go_wp2_with fail
    go_loop [9] (fun i => RmInv L ino i) (fun i => m - (intOf i).toNat)
    case atStart => exact ⟨0, by omega, rfl, by simp⟩
    case round =>
      obtain ⟨j, hj, rfl, hno⟩ := hrel
      have HNO := Lib.hid hno
      rw [← HM.out] at hj
      clear hno
      by_cases hlj : j < m
      · obtain ⟨b1, o1, rfl, l1, q1⟩ := HSL.out.get j hlj
        obtain ⟨x, hx⟩ : ∃ x, L[j]? = some x := ⟨L[j]'(by rw [← HM.out]; exact hlj), List.getElem?_eq_getElem _⟩
        rw [List.getElem?_map, hx] at q1
        have d1 : w1.cell? ⟨b1, o1 + j, none⟩ = some (.int .i64 x) := q1
        have HX := Lib.hid hx
        clear q1 hx
        by_cases hxp : x = ino
        · have HIN : Hid (ino ∈ L) := Lib.hid (hxp ▸ List.mem_of_getElem? HX.out)
          subst hxp
          go_wp2_with fail
          go_ret
          exact ⟨by simp [movE, HIN.out], HB.out⟩
        · have hxb : (x == ino) = false := by simpa using hxp
          have HXP := Lib.hid hxp
          clear hxp
          go_wp2_with fail
          go_round
          case rel =>
            refine ⟨j + 1, by rw [← HM.out]; omega, by go_num, fun y hy => ?_⟩
            rw [List.take_add_one, HX.out] at hy
            rcases List.mem_append.1 hy with hy | hy
            · exact HNO.out y hy
            · simp at hy; subst hy; exact HXP.out
          case measure => simp [intOf]; omega
      · obtain rfl : j = m := by omega
        have HNP : Hid (ino ∉ L) := Lib.hid (fun hm => by
          have := HNO.out ino (by rw [List.take_of_length_le (by rw [HM.out]; exact Nat.le_refl _)]; exact hm)
          exact this rfl)
        clear HNO
        go_wp2_with fail
        go_ret
        exact ⟨by simp [movE, HNP.out], HB.out⟩
  · have h1 : (er == 0) = false := by simpa using h0
    have h2 : (er != 0) = true := by simpa using h0
    have H0 := Lib.hid h0
    clear hv hle h0
    go_wp2_with fail
    go_ret
    exact ⟨by simp [movE, H0.out], HB.out⟩
end Go.Proofs.Ytdjahdipaffajaa
