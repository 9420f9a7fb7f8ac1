/- Small facts on worlds and slices that every walk of this seat uses; regions that draw their order, over a class of worlds. -/
import Derived.Test.YtefjpljjdjecjaaProg
import Derived.WalkKit
import Derived.WalkLawsBesides
import Derived.WalkSpells
import Derived.BigQuiet
import Derived.Lib.Hide
namespace Go.Proofs.Ytefjpljjdjecjaa
open Go.RowKit

theorem bt {a b c : World} (h : Below a.heap.size a b) (k : Below b.heap.size b c) : Below a.heap.size a c := h.trans (k.mono h.size)
theorem btA {a b c : World} {o : Obj} (h : Below a.heap.size a b) (k : Below (b.alloc o).heap.size (b.alloc o) c) : Below a.heap.size a c := bt (h.alloc h.size o) k
theorem bA {a b : World} (h : Below a.heap.size a b) (o : Obj) : Below a.heap.size a (b.alloc o) := h.alloc h.size o

/-- A world that is as w was, below block B. -/
structure Bw (B : Nat) (w : World) where
  val : World
  ok : Below B w val
instance (B : Nat) (w : World) : Nonempty (Bw B w) := ⟨⟨w, Below.refl _ _⟩⟩

theorem wp_region_bw {P : Program} {id : Nat} {Q : Exit → Act → World → Prop} {a : Act} {w : World} {l : List Oper} (B : Nat) (hm : P.follows .mixedOrders = true) (hB : Region.lexB .any l.toArray = true)
    (h : wpQuiet P l.toArray (fun w' => ∃ x : Bw B w, w' = x.val) (fun a' => ∀ w', (∃ x : Bw B w, w' = x.val) → Q .normal a' w') l a) : (Code.region id l.toArray true).wp P Q a w :=
  wp_region_quiet (C := fun w' => ∃ x : Bw B w, w' = x.val) hm hB ⟨⟨w.drew, (Below.refl _ _).drew⟩, rfl⟩ (by simpa using h)

theorem Calls.bw {P : Program} {f : FuncId} {args : Array Value} {B : Nat} {w : World} {v : Value} (hB : B ≤ w.heap.size) (x : Bw B w)
    (h : Calls P f args x.val fun e w' => e = .returned v ∧ Below x.val.heap.size x.val w') : Calls P f args x.val fun e w'' => e = .returned v ∧ ∃ y : Bw B w, w'' = y.val :=
  h.mono fun _ w'' ⟨he, hb⟩ => ⟨he, ⟨w'', x.ok.trans (hb.mono (Nat.le_trans hB x.ok.size))⟩, rfl⟩
theorem Calls.bws {P : Program} {f : FuncId} {args : Array Value} {B : Nat} {w : World} {v : Value} (x : Bw B w)
    (h : Calls P f args x.val fun e w' => e = .returned v ∧ x.val = w') : Calls P f args x.val fun e w'' => e = .returned v ∧ ∃ y : Bw B w, w'' = y.val :=
  h.mono fun _ _ ⟨he, hb⟩ => ⟨he, x, hb.symm⟩
theorem Calls.same_below {P : Program} {f : FuncId} {args : Array Value} {w : World} {v : Value} (h : Calls P f args w fun e w' => e = .returned v ∧ w = w') :
    Calls P f args w fun e w' => e = .returned v ∧ Below w.heap.size w w' :=
  h.mono fun _ w' ⟨he, hb⟩ => ⟨he, by subst hb; exact Below.refl _ _⟩

/-- A block of cells, whole. -/
def RowAt (w : World) (b : Nat) (t : TypeId) (l : List Value) : Prop := w.heap[b]? = some (.cells l.toArray t (0, 0))
theorem RowAt.lt {w : World} {b : Nat} {t : TypeId} {l : List Value} (h : RowAt w b t l) : b < w.heap.size := by
  by_cases hh : b < w.heap.size
  · exact hh
  · unfold RowAt at h; rw [Array.getElem?_eq_none (by omega)] at h; cases h
theorem RowAt.cell {w : World} {b : Nat} {t : TypeId} {l : List Value} (h : RowAt w b t l) (i : Nat) : w.cell? ⟨b, i, none⟩ = l[i]? := by
  unfold RowAt at h; simp [World.cell?, h]
theorem RowAt.free {w : World} {b : Nat} {t : TypeId} {l : List Value} (h : RowAt w b t l) (i : Nat) : w.frozen? ⟨b, i, none⟩ = false := by
  unfold RowAt at h; simp [World.frozen?, h]
theorem RowAt.below {w w' : World} {b B : Nat} {t : TypeId} {l : List Value} (h : RowAt w b t l) (hb : Below B w w') (hl : b < B) : RowAt w' b t l := by
  unfold RowAt at *; rw [hb.block b hl]; exact h
theorem RowAt.next {w w' : World} {b : Nat} {t : TypeId} {l : List Value} (h : RowAt w b t l) (hb : Below w.heap.size w w') : RowAt w' b t l := h.below hb h.lt
theorem RowAt.alloc {w : World} {b : Nat} {t : TypeId} {l : List Value} (h : RowAt w b t l) (o : Obj) : RowAt (w.alloc o) b t l := h.next ((Below.refl _ _).alloc (Nat.le_refl _) o)
theorem RowAt.drew {w : World} {b : Nat} {t : TypeId} {l : List Value} (h : RowAt w b t l) : RowAt w.drew b t l := h
theorem RowAt.new (w : World) (t : TypeId) (l : List Value) : RowAt (w.alloc (.cells l.toArray t)) w.heap.size t l := by
  unfold RowAt
  show (w.heap.push _)[w.heap.size]? = _
  simp
theorem RowAt.set {w : World} {b : Nat} {t : TypeId} {l : List Value} (h : RowAt w b t l) (i : Nat) (v : Value) : RowAt (w.setCell ⟨b, i, none⟩ v) b t (l.set i v) := by
  unfold RowAt at *
  simp only [World.setCell, Array.getElem?_modify, h]
  simp
theorem RowAt.other {w : World} {b c : Nat} {t : TypeId} {l : List Value} (h : RowAt w b t l) (i : Nat) (v : Value) (hc : b ≠ c) : RowAt (w.setCell ⟨c, i, none⟩ v) b t l := by
  unfold RowAt at *
  rw [Below.heap_setCell _ _ _ _ hc]; exact h

/-- A slice's elements (each of one cell), as they are read. -/
def SliceAt (w : World) (a : Option Addr) (len : Nat) (l : List Value) : Prop :=
  l.length = len ∧ (len = 0 ∨ ∃ b off, a = some ⟨b, off, none⟩ ∧ b < w.heap.size ∧ ∀ i, i < len → w.cell? ⟨b, off + i, none⟩ = l[i]?)
theorem SliceAt.next {w w' : World} {a : Option Addr} {len : Nat} {l : List Value} (h : SliceAt w a len l) (hb : Below w.heap.size w w') : SliceAt w' a len l := by
  obtain ⟨h1, h2⟩ := h
  refine ⟨h1, ?_⟩
  rcases h2 with h2 | ⟨b, off, e, hl, hc⟩
  · exact .inl h2
  · exact .inr ⟨b, off, e, Nat.lt_of_lt_of_le hl hb.size, fun i hi => by rw [hb.cell hl]; exact hc i hi⟩
theorem SliceAt.nil (w : World) (a : Option Addr) : SliceAt w a 0 [] := ⟨rfl, .inl rfl⟩
theorem SliceAt.row {w : World} {b : Nat} {t : TypeId} {l : List Value} (h : RowAt w b t l) : SliceAt w (some ⟨b, 0, none⟩) l.length l :=
  ⟨rfl, .inr ⟨b, 0, rfl, h.lt, fun i _ => by rw [Nat.zero_add]; exact h.cell i⟩⟩
theorem SliceAt.firstPart {w : World} {b : Nat} {t : TypeId} {l : List Value} (h : RowAt w b t l) (n : Nat) (hn : n ≤ l.length) : SliceAt w (some ⟨b, 0, none⟩) n (l.take n) :=
  ⟨by simp; omega, .inr ⟨b, 0, rfl, h.lt, fun i hi => by rw [Nat.zero_add, h.cell i, List.getElem?_take, if_pos hi]⟩⟩
/-- The elements of a slice's part. -/
theorem SliceAt.part {w : World} {b off len : Nat} {l : List Value} (h : SliceAt w (some ⟨b, off, none⟩) len l) (lo hi : Nat) (h1 : lo ≤ hi) (h2 : hi ≤ len) : SliceAt w (some ⟨b, off + lo, none⟩) (hi - lo) ((l.take hi).drop lo) := by
  obtain ⟨hl, hr⟩ := h
  refine ⟨by simp; omega, ?_⟩
  by_cases h0 : hi - lo = 0
  · exact .inl h0
  · rcases hr with hr | ⟨b', off', e, hb, hc⟩
    · omega
    · simp at e
      obtain ⟨rfl, rfl⟩ := e
      refine .inr ⟨b, off + lo, rfl, hb, fun i hi' => ?_⟩
      have := hc (lo + i) (by omega)
      rw [Nat.add_assoc, this, List.getElem?_drop, List.getElem?_take, if_pos (by omega)]
theorem SliceAt.get {w : World} {a : Option Addr} {len : Nat} {l : List Value} (h : SliceAt w a len l) (i : Nat) (hi : i < len) : ∃ b off, a = some ⟨b, off, none⟩ ∧ b < w.heap.size ∧ w.cell? ⟨b, off + i, none⟩ = l[i]? := by
  rcases h.2 with h | ⟨b, off, e, hb, hc⟩
  · omega
  · exact ⟨b, off, e, hb, hc i hi⟩
def B8 (c : UInt8) : Value := .int .u8 c.toNat
/-- What an owned row reads as. -/
theorem SliceAt.owned {w : World} {base : Nat} {v : Value} {n : Nat} {l : List Value} {e : TypeId} (h : w.ownsRow base e 1 v n l) : ∃ a cap, v = .slice a n cap ∧ SliceAt w a n l := by
  have hlen : l.length = n := by have := h.1; simpa using this
  rcases h.2 with ⟨rfl, rfl⟩ | ⟨g, cap, cur, rfl, _, hg, _⟩
  · exact ⟨none, 0, rfl, hlen, .inl rfl⟩
  · refine ⟨_, cap, rfl, hlen, .inr ⟨g, 0, rfl, ?_, ?_⟩⟩
    · by_cases hh : g < w.heap.size
      · exact hh
      · rw [Array.getElem?_eq_none (by omega)] at hg; cases hg
    · intro i hi
      rw [Nat.zero_add]
      exact h.cellAt i (by omega)
theorem ownsRow_block {w : World} {base : Nat} {v : Value} {n size : Nat} {l : List Value} {e : TypeId} (h : w.ownsRow base e size v n l) : ∀ k, v.ownBlock = some k → base ≤ k := by
  intro k hk
  rcases h.2 with ⟨rfl, _⟩ | ⟨g, cap, cur, rfl, hg, _⟩
  · cases hk
  · cases hk; exact hg
theorem take_snoc (s : ByteArray) (k : Nat) (h : k < s.size) : s.data.toList.take (k + 1) = s.data.toList.take k ++ [s[k]] := by
  rw [List.take_succ_eq_append_getElem (by simpa using h)]; rfl

theorem run_string_of_slice {P : Program} (w : World) (src e dst : TypeId) (hs : P.underlying src = some (.slice e)) (he : P.underlying e = some (.int .u8)) (hd : P.underlying dst = some .string) (a : Option Addr) (len cap : Nat) (l : List UInt8) (h : SliceAt w a len (l.map B8)) :
    (convert src dst (.slice a len cap)).run P w = .ok (.string ⟨l.toArray⟩) w := by
  have hl : l.length = len := by simpa using h.1
  rcases h.2 with h0 | ⟨b, off, rfl, _, hc⟩
  · subst h0
    obtain rfl : l = [] := by cases l <;> simp at hl ⊢
    rw [run_convert_bytes_string w src dst e a 0 cap hs he hd]
    cases a with
    | none => simp [Conv.bytesToString]; rfl
    | some x =>
      rw [run_bytesToString w x 0 cap [] (by simpa using run_loadCells_list (P := P) w x [] (fun j v hj => by simp at hj))]
      rfl
  · have := run_convert_bytes_arg w src e hs he b off len cap (l.map fun c => (c.toNat : Int)) (by simpa using hl) (fun i hi => by
      have hil : i < l.length := by omega
      rw [hc i hi]
      simp [hil, B8]) dst hd
    rw [this]
    congr 2
    simp [strOfNums, Function.comp_def]
end Go.Proofs.Ytefjpljjdjecjaa
