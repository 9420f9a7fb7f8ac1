/- parents, above: the directories' parents as a map. -/
import Derived.Test.YtdjahdipaffajaaMp
import Derived.Test.YtdjahdipaffajaaLa
namespace Go.Proofs.Ytdjahdipaffajaa
open Go.RowKit
def ok64 (x : Int) : Prop := -9223372036854775808 ≤ x ∧ x ≤ 9223372036854775807
/-- A slice of pairs of numbers, as it is read. -/
def UpsAt (w : World) (a : Option Addr) (n : Nat) (l : List (Int × Int)) : Prop :=
  l.length = n ∧ (∀ u ∈ l, ok64 u.1 ∧ ok64 u.2) ∧ (n = 0 ∨ ∃ b off, a = some ⟨b, off, none⟩ ∧ b < w.heap.size ∧ ∀ (i : Nat) (u : Int × Int), l[i]? = some u →
    w.cell? ⟨b, off + i * 2, none⟩ = some (.int .i64 u.1) ∧ w.cell? ⟨b, off + i * 2 + 1, none⟩ = some (.int .i64 u.2))
theorem UpsAt.next {w w' : World} {a : Option Addr} {n : Nat} {l : List (Int × Int)} (h : UpsAt w a n l) (hb : Below w.heap.size w w') : UpsAt w' a n l := by
  obtain ⟨h1, h2, h3⟩ := h
  refine ⟨h1, h2, ?_⟩
  rcases h3 with h3 | ⟨b, off, e, hl, hc⟩
  · exact .inl h3
  · refine .inr ⟨b, off, e, Nat.lt_of_lt_of_le hl hb.size, fun i s hs => ?_⟩
    rw [hb.cell hl, hb.cell hl]
    exact hc i s hs
theorem UpsAt.get {w : World} {a : Option Addr} {n : Nat} {l : List (Int × Int)} (h : UpsAt w a n l) (i : Nat) (hi : i < n) : ∃ b off, a = some ⟨b, off, none⟩ ∧ b < w.heap.size ∧ ∀ (i : Nat) (u : Int × Int), l[i]? = some u →
    w.cell? ⟨b, off + i * 2, none⟩ = some (.int .i64 u.1) ∧ w.cell? ⟨b, off + i * 2 + 1, none⟩ = some (.int .i64 u.2) := by
  rcases h.2.2 with h | h
  · omega
  · exact h
def I64 (k : Int) : Value := .int .i64 k
def parV (l : List (Int × Int)) (k : Int) : Option Value := (par l k).map I64
theorem par_snoc (l : List (Int × Int)) (u : Int × Int) (k : Int) : par (l ++ [u]) k = match par l k with
    | some p => some p
    | none => if k = u.1 then some u.2 else none := by
  unfold par
  rw [List.find?_append]
  cases h : l.find? fun u => u.1 == k with
  | some v => simp
  | none =>
    by_cases e : u.1 = k
    · subst e; simp
    · have e2 : ¬ k = u.1 := fun h => e h.symm
      simp [e, e2]
theorem zero3 (w : World) : (zeroValue 3).run Try.prog w = .ok (.int .i64 0) w := by kernel_rfl
theorem make48 (w : World) (n : Int) : (Instr.makeMap 48 (some (.int .i64 n))).run Try.prog w = .ok (.map (some w.heap.size)) (w.alloc (.map #[] 0)) := by
  simp [Instr.makeMap, go_sem, run_underlying Try.underlying48]
def PaInv (w : World) (l : List (Int × Int)) (mb : Nat) (i : Value) (wr : World) : Prop := ∃ k : Nat, k ≤ l.length ∧ i = .int .i64 k ∧ MapAt wr mb (parV (l.take k)) ∧ Below w.heap.size w wr
set_option maxHeartbeats 2000000 in
theorem parents_any (w : World) (a : Option Addr) (n cap : Nat) (l : List (Int × Int)) (hs : UpsAt w a n l) (hn : n ≤ 1000) :
    Calls Try.prog 23 #[.slice a n cap] w fun e w' => ∃ mb, e = .returned (.map (some mb)) ∧ MapAt w' mb (parV l) ∧ w.heap.size ≤ mb ∧ Below w.heap.size w w' := by
  have HS := Lib.hid hs
  have hmk := make48
  clear hs
  go_enter Try.func23, Try.ntmps23
  go_wp2_with fail
  obtain ⟨mb, hmb⟩ : ∃ mb, mb = w.heap.size := ⟨_, rfl⟩
  rw [← hmb]
  have HM0 : Hid (MapAt (w.alloc (.map #[] 0)) mb (fun _ => none)) := Lib.hid (by rw [hmb]; exact MapAt.made w)
  have HB0 : Hid (Below w.heap.size w (w.alloc (.map #[] 0))) := Lib.hid ((Below.refl _ _).alloc (Nat.le_refl _) _)
  have hle : w.heap.size ≤ mb := by omega
  generalize w.alloc (.map #[] 0) = W0 at *
  clear hmb
  go_loopw [13] (fun i wr => PaInv w l mb i wr) (fun i _ => n - (intOf i).toNat)
  case atStart => exact ⟨0, by omega, rfl, HM0.out.ext fun k => rfl, HB0.out⟩
  case round =>
    obtain ⟨k, hk, rfl, hm, hb⟩ := hrel
    have HM := Lib.hid hm
    have HB := Lib.hid hb
    have hln := HS.out.1
    rw [hln] at hk
    clear hm hb hln
    by_cases hlt : k < n
    · obtain ⟨b1, o1, rfl, l1, hcs⟩ := HS.out.get k hlt
      have hll : k < l.length := by have := HS.out.1; omega
      obtain ⟨u, hu⟩ : ∃ u, l[k]? = some u := ⟨l[k], List.getElem?_eq_getElem _⟩
      obtain ⟨q1, q2⟩ := hcs k u hu
      have d1 := (HB.out.cell (p := ⟨b1, o1 + k * 2, none⟩) l1).trans q1
      have d2 := (HB.out.cell (p := ⟨b1, o1 + k * 2 + 1, none⟩) l1).trans q2
      have hb1 : b1 < wr.heap.size := Nat.lt_of_lt_of_le l1 HB.out.size
      have HU := Lib.hid hu
      clear q1 q2 hu hcs hll
      obtain ⟨ux, uy⟩ := u
      have hal : Below wr.heap.size wr (wr.alloc (.cells #[.int .i64 ux, .int .i64 uy] 34)) := (Below.refl _ _).alloc (Nat.le_refl _) _
      have hm2 := HM.out.next hal
      have hr := run_look_ok (P := Try.prog) hm2 Try.underlying48 Try.underlying3 (.int .i64 0) (zero3 _) ux
      have HR := Lib.hid hr
      obtain ⟨U, hrun, mp, hf2, hz⟩ := run_upd (P := Try.prog) hm2 Try.underlying48 Try.underlying3 ux (.int .i64 uy)
      have HRU := Lib.hid hrun
      have HMP := Lib.hid mp
      have HF2 := Lib.hid hf2
      have HB2 := Lib.hid (HB.out.alloc HB.out.size (.cells #[.int .i64 ux, .int .i64 uy] 34))
      have HM2 := Lib.hid hm2
      clear hal hm2 hr hrun mp hf2
      have htk : Hid (l.take (k + 1) = l.take k ++ [(ux, uy)]) := Lib.hid (by rw [List.take_add_one, HU.out]; rfl)
      cases hp : par (l.take k) ux with
      | some p =>
        have hpv : parV (l.take k) ux = some (.int .i64 p) := by unfold parV; rw [hp]; rfl
        rw [hpv] at HR
        simp only [Option.getD_some, Option.isSome_some] at HR
        have HP := Lib.hid hp
        clear hpv hp HRU HMP HF2 hz
        go_wp2_with (at_lookup; refine wpList_look rfl rfl rfl rfl HR.out ?_)
        go_roundw
        case rel =>
          refine ⟨k + 1, by have := HS.out.1; omega, by go_num, ?_, HB2.out⟩
          rw [htk.out]
          refine HM2.out.ext fun j => ?_
          unfold parV
          rw [par_snoc]
          cases hj : par (l.take k) j with
          | some q => rfl
          | none =>
            by_cases e : j = ux
            · subst e; rw [HP.out] at hj; cases hj
            · simp [e]
        case measure => simp [intOf]; omega
      | none =>
        have hpv : parV (l.take k) ux = none := by unfold parV; rw [hp]; rfl
        rw [hpv] at HR
        simp only [Option.getD_none, Option.isSome_none] at HR
        have HP := Lib.hid hp
        clear hpv hp
        go_wp2_with (first | (at_lookup; refine wpList_look rfl rfl rfl rfl HR.out ?_) | (at_mapUpdate; refine wpList_upd rfl rfl rfl rfl rfl HRU.out ?_))
        go_roundw
        case rel =>
          refine ⟨k + 1, by have := HS.out.1; omega, by go_num, ?_, HB2.out.trans (Fr.below HF2.out HB2.out.size fun j hj => by omega)⟩
          rw [htk.out]
          refine HMP.out.ext fun j => ?_
          unfold parV
          rw [par_snoc]
          by_cases e : j = ux
          · subst e; rw [HP.out]; simp [I64]
          · rw [if_neg e]
            cases hj : par (l.take k) j with
            | some q => rfl
            | none => simp [e]
        case measure => simp [intOf]; omega
    · obtain rfl : k = n := by omega
      go_wp2
      go_ret
      have hm := HM.out
      rw [List.take_of_length_le (by have := HS.out.1; omega)] at hm
      exact ⟨mb, rfl, hm, hle, HB.out⟩
theorem above_any (w : World) (m : Option Nat) (ino : Int) : Calls Try.prog 22 #[.map m, .int .i64 ino] w fun e w' => e = .returned (.func (.func 27) #[] #[.pointer (some ⟨w.heap.size, 0, none⟩), .pointer (some ⟨w.heap.size + 1, 0, none⟩)]) ∧ w' = (w.alloc (.cells #[.map m] 48)).alloc (.cells #[.int .i64 ino] 3) := by
  go_enter Try.func22, Try.ntmps22
  go_wp2
  go_ret
  exact ⟨rfl, rfl⟩
end Go.Proofs.Ytdjahdipaffajaa
