/- Contracts of attr.bits, Part, Less, of the closure of attr.Mean, and of the document's, for every input. -/
import Derived.Test.YtkdemfahabnbjaaProg
import Derived.Test.YtkdemfahabnbjaaFl
import Derived.WalkKit
import Derived.WalkLawsBesides
import Derived.WalkSpells
import Derived.Lib.Hide
namespace Go.Proofs.Ytkdemfahabnbjaa
open Go.RowKit

def bitsB (b : Nat) : Nat := if JFl.D.order b b = some .eq then b else JFl.NN

theorem run25 (b : Nat) (w : World) : (callFunc 25 #[.float .f64 b]).run Try.prog w = .ok (.value (.int .u64 b)) w :=
  run_callFunc_extern Try.func25 (by kernel_rfl) (by kernel_rfl) (by kernel_rfl) (e := Extern.MathFloatBits.float64bits) (by kernel_rfl) _ _
theorem run23 (b : Int) (w : World) : (callFunc 23 #[.int .u64 b]).run Try.prog w = .ok (.value (.float .f64 b.toNat)) w :=
  run_callFunc_extern Try.func23 (by kernel_rfl) (by kernel_rfl) (by kernel_rfl) (e := Extern.MathFloatBits.float64frombits) (by kernel_rfl) _ _

theorem bits_ok (b : Nat) (w : World) (h : (Ieee.double.order b b != some .eq) = false) :
    Calls Try.prog 20 #[.float .f64 b] w fun e w' => e = .returned (.int .u64 b) ∧ w = w' := by
  have h' : (FloatKind.f64.format.order b b != some .eq) = false := h
  clear h
  have e25 := run25
  go_enter Try.func20, Try.ntmps20
  go_wp2
  go_ret
  exact ⟨rfl, rfl⟩
theorem bits_nan (b : Nat) (w : World) (h : (Ieee.double.order b b != some .eq) = true) :
    Calls Try.prog 20 #[.float .f64 b] w fun e w' => e = .returned (.int .u64 9221120237041090561) ∧ w = w' := by
  have h' : (FloatKind.f64.format.order b b != some .eq) = true := h
  clear h
  go_enter Try.func20, Try.ntmps20
  go_wp2
  go_ret
  exact ⟨rfl, rfl⟩
theorem bits_any (b : Nat) (w : World) :
    Calls Try.prog 20 #[.float .f64 b] w fun e w' => e = .returned (.int .u64 (bitsB b)) ∧ w = w' := by
  by_cases h : Ieee.double.order b b = some .eq
  · have e : bitsB b = b := by unfold bitsB; exact if_pos h
    rw [e]; exact bits_ok b w (by simp [h])
  · have e : bitsB b = JFl.NN := by unfold bitsB; exact if_neg h
    rw [e]; exact bits_nan b w (by simp [h])
theorem bitsR_any (b : Nat) (w : World) :
    Calls Try.prog 21 #[.float .f64 b] w fun e w' => e = .returned (.int .u64 (bitsB b)) ∧ w = w' := by
  have e25 := run25
  by_cases h : Ieee.double.order b b = some .eq
  · have e : bitsB b = b := by unfold bitsB; exact if_pos h
    rw [e]
    have h' : (FloatKind.f64.format.order b b != some .eq) = false := by simp [show FloatKind.f64.format.order b b = some .eq from h]
    clear h e
    go_enter Try.func21, Try.ntmps21
    go_wp2
    go_ret
    exact ⟨rfl, rfl⟩
  · have e : bitsB b = JFl.NN := by unfold bitsB; exact if_neg h
    rw [e]
    have h' : (FloatKind.f64.format.order b b != some .eq) = true := by simp [show ¬ FloatKind.f64.format.order b b = some .eq from h]
    clear h e
    go_enter Try.func21, Try.ntmps21
    go_wp2
    go_ret
    exact ⟨rfl, rfl⟩
theorem less_any (a b : Int) (w : World) :
    Calls Try.prog 17 #[.int .u64 a, .int .u64 b] w fun e w' => e = .returned (.bool (JFl.lessB a.toNat b.toNat)) ∧ w = w' := by
  have e23 := run23
  go_enter Try.func17, Try.ntmps17
  go_wp2
  go_ret
  exact ⟨rfl, rfl⟩
theorem lessR_any (a b : Int) (w : World) :
    Calls Try.prog 18 #[.int .u64 a, .int .u64 b] w fun e w' => e = .returned (.bool (JFl.lessB a.toNat b.toNat)) ∧ w = w' := by
  have e23 := run23
  go_enter Try.func18, Try.ntmps18
  go_wp2
  go_ret
  exact ⟨rfl, rfl⟩

/-- The bits of a number that is none, as the tape tells them. -/
def nanOf (w : World) (x y : Nat) : Nat := (Question.nanBits .f64 x y).cut (w.tape w.drawn (.nanBits .f64 x y))

theorem run_float_nan (op : BinOp) (t : TypeId) (x y : Nat) (hop : op = .add ∨ op = .quo) (h : floatBits op .f64 x y = none) (w : World) :
    (binOp op t (.float .f64 x) (.float .f64 y)).run Try.prog w = .ok (.float .f64 (nanOf w x y)) w.drew := by
  unfold floatBits at h
  rcases hop with rfl | rfl <;> simp only at h <;> simp [binOp, Op.floatArith, h, choose, Sem.run, Question.forced, nanOf]

theorem nan_read (w : World) (x y : Nat) : (JFl.D.read (nanOf w x y)).isNaN = true := by
  have h : ∃ s f, nanOf w x y = s * 2 ^ 63 + (2047 * 2 ^ 52 + 1 + f) ∧ s < 2 ∧ f < 2 ^ 52 - 1 := by
    refine ⟨w.tape w.drawn (.nanBits .f64 x y) % 2, (w.tape w.drawn (.nanBits .f64 x y) / 2) % (2 ^ 52 - 1), ?_, Nat.mod_lt _ (by omega), Nat.mod_lt _ (by omega)⟩
    simp only [nanOf, Question.cut]; omega
  obtain ⟨s, f, e, hs, hf⟩ := h
  have hw : JFl.D.signWeight = 2 ^ 63 := rfl
  have hi : JFl.D.infRung = 2047 * 2 ^ 52 := rfl
  have hb : JFl.D.binade = 2 ^ 52 := rfl
  unfold Ieee.Format.read
  have hm : nanOf w x y % 2 ^ 63 = 2047 * 2 ^ 52 + 1 + f := by rw [e]; omega
  simp only [hw, hi, hb, hm]
  rw [if_neg (by omega), if_neg (by omega), if_neg (by omega)]
  rfl

theorem nan_add (b y : Nat) (h : (JFl.D.read b).isNaN = true) : JFl.D.add b y = none := by
  unfold Ieee.Format.add
  cases e : JFl.D.read b <;> simp [Ieee.Datum.isNaN, e] at h
  rfl
theorem nan_div (b y : Nat) (h : (JFl.D.read b).isNaN = true) : JFl.D.div b y = none := by
  unfold Ieee.Format.div
  cases e : JFl.D.read b <;> simp [Ieee.Datum.isNaN, e] at h
  rfl
theorem nan_bits (b : Nat) (h : (JFl.D.read b).isNaN = true) : bitsB b = JFl.NN := by
  unfold bitsB Ieee.Format.order
  cases e : JFl.D.read b <;> simp [Ieee.Datum.isNaN, e] at h
  rfl

theorem fi_eq (n : Int) : floatOfInt .f64 n = JFl.fi n := rfl
theorem bits_nnB (r : Nat) : bitsB r = JFl.nnB (some r) := rfl

theorem below_drew (w : World) : Below w.heap.size w w.drew := (Below.refl _ _).drew

def RetU (n : Nat) (w : World) (e : Ending) (w' : World) : Prop := e = .returned (.int .u64 n) ∧ Below w.heap.size w w'

theorem part_any (n all : Int) (w : World) : Calls Try.prog 13 #[.int .i64 n, .int .i64 all] w (RetU (JFl.partB n all) w) := by
  unfold JFl.partB
  cases hq : JFl.D.div (JFl.fi n) (JFl.fi all) with
  | some r =>
    have he : ∀ w, (binOp .quo 42 (.float .f64 (floatOfInt .f64 n)) (.float .f64 (floatOfInt .f64 all))).run Try.prog w = .ok (.float .f64 r) w := fun w => run_float_arith w .quo 42 .f64 _ _ r hq
    clear hq
    go_enter Try.func13, Try.ntmps13
    go_wp2_with (go_at_call 20; refine (bits_any _ _).mono ?_; rintro e w' ⟨rfl, rfl⟩)
    go_ret
    exact ⟨rfl, Below.refl _ _⟩
  | none =>
    have he : ∀ w, (binOp .quo 42 (.float .f64 (floatOfInt .f64 n)) (.float .f64 (floatOfInt .f64 all))).run Try.prog w = .ok (.float .f64 (nanOf w (floatOfInt .f64 n) (floatOfInt .f64 all))) w.drew := fun w => run_float_nan .quo 42 _ _ (.inr rfl) hq w
    clear hq
    go_enter Try.func13, Try.ntmps13
    go_wp2_with (go_at_call 20; refine (bits_any _ _).mono ?_; rintro e w' ⟨rfl, rfl⟩)
    go_ret
    exact ⟨by rw [nan_bits _ (nan_read _ _ _)]; rfl, below_drew _⟩
theorem partR_any (n all : Int) (w : World) : Calls Try.prog 14 #[.int .i64 n, .int .i64 all] w (RetU (JFl.partB n all) w) := by
  unfold JFl.partB
  cases hq : JFl.D.div (JFl.fi n) (JFl.fi all) with
  | some r =>
    have he : ∀ w, (binOp .quo 42 (.float .f64 (floatOfInt .f64 n)) (.float .f64 (floatOfInt .f64 all))).run Try.prog w = .ok (.float .f64 r) w := fun w => run_float_arith w .quo 42 .f64 _ _ r hq
    clear hq
    go_enter Try.func14, Try.ntmps14
    go_wp2_with (go_at_call 21; refine (bitsR_any _ _).mono ?_; rintro e w' ⟨rfl, rfl⟩)
    go_ret
    exact ⟨rfl, Below.refl _ _⟩
  | none =>
    have he : ∀ w, (binOp .quo 42 (.float .f64 (floatOfInt .f64 n)) (.float .f64 (floatOfInt .f64 all))).run Try.prog w = .ok (.float .f64 (nanOf w (floatOfInt .f64 n) (floatOfInt .f64 all))) w.drew := fun w => run_float_nan .quo 42 _ _ (.inr rfl) hq w
    clear hq
    go_enter Try.func14, Try.ntmps14
    go_wp2_with (go_at_call 21; refine (bitsR_any _ _).mono ?_; rintro e w' ⟨rfl, rfl⟩)
    go_ret
    exact ⟨by rw [nan_bits _ (nan_read _ _ _)]; rfl, below_drew _⟩

theorem run_store_float (P : Program) (w : World) (a : Addr) (m : Mode) (k : FloatKind) (b : Nat) : (store a (.float k b) m).run P w = stored P w a (.float k b) m := run_store P w a _ m rfl
attribute [local go_sem] run_store_float

/-- What a running sum stands for: its bits, or none (any bits of no number). -/
def SR : Option Nat → Nat → Prop
  | some a, b => b = a
  | none, b => (JFl.D.read b).isNaN = true
def onto (o : Option Nat) (n : Int) : Option Nat := o.bind fun s => JFl.D.add s (JFl.fi n)
def AddPost (o : Option Nat) (p : Addr) (w : World) (e : Ending) (w' : World) : Prop :=
  e = .returned (.tuple #[]) ∧ ∃ s, SR o s ∧ (w' = w.setCell p (.float .f64 s) ∨ w' = w.drew.setCell p (.float .f64 s))

theorem addc_any (n : Int) (p : Addr) (s : Nat) (o : Option Nat) (w : World) (hc : w.cell? p = some (.float .f64 s)) (hf : w.frozen? p = false) (ho : SR o s) :
    Calls Try.prog 22 #[.int .i64 n, .pointer (some p)] w (AddPost (onto o n) p w) := by
  have hon : (∃ a, JFl.D.add s (JFl.fi n) = some a ∧ onto o n = some a) ∨ (JFl.D.add s (JFl.fi n) = none ∧ onto o n = none) := by
    cases o with
    | none => right; exact ⟨nan_add _ _ ho, rfl⟩
    | some a =>
      obtain rfl : s = a := ho
      cases h : JFl.D.add s (JFl.fi n) with
      | none => right; exact ⟨rfl, by simp [onto, h]⟩
      | some b => left; exact ⟨b, rfl, by simp [onto, h]⟩
  clear ho
  rcases hon with ⟨a, h1, h2⟩ | ⟨h1, h2⟩
  · rw [h2]
    have he : ∀ w, (binOp .add 42 (.float .f64 s) (.float .f64 (floatOfInt .f64 n))).run Try.prog w = .ok (.float .f64 a) w := fun w => run_float_arith w .add 42 .f64 _ _ a h1
    clear h1 h2
    go_enter Try.func22, Try.ntmps22
    go_wp2
    go_end0
    exact ⟨rfl, a, rfl, .inl rfl⟩
  · rw [h2]
    have he : ∀ w, (binOp .add 42 (.float .f64 s) (.float .f64 (floatOfInt .f64 n))).run Try.prog w = .ok (.float .f64 (nanOf w s (floatOfInt .f64 n))) w.drew := fun w => run_float_nan .add 42 _ _ (.inl rfl) h1 w
    clear h1 h2
    go_enter Try.func22, Try.ntmps22
    go_wp2
    go_end0
    exact ⟨rfl, _, nan_read _ _ _, .inr rfl⟩

/-- A slice of integers, as what is read of it. -/
def IntsAt (k : IntKind) (w : World) (a : Option Addr) (len : Nat) (l : List Int) : Prop :=
  l.length = len ∧ (len = 0 ∨ ∃ b off, a = some ⟨b, off, none⟩ ∧ b < w.heap.size ∧ ∀ i, i < len → w.cell? ⟨b, off + i, none⟩ = some (.int k (l.getD i 0)))

theorem sumB_take (l : List Int) (k : Nat) (h : k < l.length) : JFl.sumB (l.take (k + 1)) = onto (JFl.sumB (l.take k)) (l.getD k 0) := by
  unfold JFl.sumB onto
  rw [List.take_succ_eq_append_getElem h, List.foldl_append]
  simp [List.getD_eq_getElem?_getD, h]

def MeanEnd (o : Option Nat) (len : Nat) : Nat := JFl.nnB (o.bind fun s => JFl.D.div s (JFl.fi len))

theorem addPost_rel {o : Option Nat} {B0 : Nat} {w wr w' : World} {p : Addr} {e : Ending} (h : AddPost o p wr e w') (hb : Below B0 w wr) (hp : B0 ≤ p.block) (hc : ∃ v, wr.cell? p = some v) (hf : wr.frozen? p = false) (hs : p.block < wr.heap.size) :
    e = .returned (.tuple #[]) ∧ ∃ s, SR o s ∧ w'.cell? p = some (.float .f64 s) ∧ w'.frozen? p = false ∧ Below B0 w w' ∧ p.block < w'.heap.size := by
  obtain ⟨he, s, h1, h2⟩ := h
  obtain ⟨v, hv⟩ := hc
  refine ⟨he, s, h1, ?_⟩
  rcases h2 with rfl | rfl
  · exact ⟨by simp [hv, go_sem], by simp [hf, go_sem], hb.setCell hp _, by simpa [World.setCell] using hs⟩
  · exact ⟨by simp [hv, go_sem], by simp [hf, go_sem], hb.drew.setCell hp _, by simpa [World.setCell] using hs⟩
end Go.Proofs.Ytkdemfahabnbjaa
