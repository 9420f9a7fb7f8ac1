/- A file behind writes: plain lists of bytes; a row of bytes that is written into. -/
import Derived.Test.YtkcebbidmlnmmaaDoorWd
import Derived.Lib.BufferWrite
import Derived.Laws.MakeOwn
namespace Go.Proofs.YtkcebbidmlnmmaaDoor
open Go.RowKit
def ext (f : List UInt8) (n : Nat) : List UInt8 := f ++ List.replicate (n - f.length) 0
def putB (f : List UInt8) (a : Nat) (t : List UInt8) : List UInt8 := f.take a ++ t ++ f.drop (a + t.length)
def ovr (f : List UInt8) (p : Pt) : List UInt8 := putB (ext f (p.1 + p.2.size)) p.1 p.2.data.toList
def overL (P : List Pt) (f : List UInt8) : List UInt8 := P.foldl ovr f
theorem size_len (t : ByteArray) : t.data.toList.length = t.size := Array.length_toList
theorem ext_len (f : List UInt8) (n : Nat) : (ext f n).length = max f.length n := by simp [ext]; omega
theorem ext_same {f : List UInt8} {n : Nat} (h : n ≤ f.length) : ext f n = f := by
  unfold ext
  rw [show n - f.length = 0 by omega]
  simp
theorem putB_len {f : List UInt8} {a : Nat} {t : List UInt8} (h : a + t.length ≤ f.length) : (putB f a t).length = f.length := by simp [putB]; omega
theorem ext_at (f : List UInt8) (n i : Nat) : (ext f n)[i]? = if i < f.length then f[i]? else if i < n then some 0 else none := by
  unfold ext
  by_cases h : i < f.length
  · rw [if_pos h, List.getElem?_append_left h]
  · rw [if_neg h, List.getElem?_append_right (by omega)]
    by_cases h2 : i < n
    · rw [if_pos h2, List.getElem?_replicate, if_pos (by omega)]
    · rw [if_neg h2, List.getElem?_replicate, if_neg (by omega)]
theorem putB_at {f : List UInt8} {a : Nat} {t : List UInt8} (h : a + t.length ≤ f.length) (i : Nat) : (putB f a t)[i]? = if a ≤ i ∧ i < a + t.length then t[i - a]? else f[i]? := by
  unfold putB
  have h1 : (f.take a).length = a := by rw [List.length_take]; omega
  by_cases c1 : i < a
  · rw [if_neg (by omega), List.append_assoc, List.getElem?_append_left (by omega), List.getElem?_take, if_pos c1]
  · by_cases c2 : i < a + t.length
    · rw [if_pos ⟨by omega, c2⟩, List.append_assoc, List.getElem?_append_right (by omega), List.getElem?_append_left (by omega), h1]
    · rw [if_neg (by omega), List.getElem?_append_right (by rw [List.length_append, h1]; omega), List.length_append, h1, List.getElem?_drop]
      congr 1
      omega
theorem ovr_len (f : List UInt8) (p : Pt) : (ovr f p).length = max f.length (p.1 + p.2.size) := by
  unfold ovr
  rw [putB_len (by rw [ext_len, size_len]; omega), ext_len]
theorem ovr_at (f : List UInt8) (p : Pt) (i : Nat) : (ovr f p)[i]? = if p.1 ≤ i ∧ i < p.1 + p.2.size then p.2.data.toList[i - p.1]? else if i < f.length then f[i]? else if i < p.1 + p.2.size then some 0 else none := by
  unfold ovr
  rw [putB_at (by rw [ext_len, size_len]; omega), size_len, ext_at]
theorem sizeL_nat (P : List Pt) (n : Nat) : ∃ m : Nat, sizeL P (n : Int) = m ∧ n ≤ m ∧ ∀ f : List UInt8, f.length = n → (overL P f).length = m := by
  induction P generalizing n with
  | nil => exact ⟨n, rfl, Nat.le_refl _, fun _ h => h⟩
  | cons p P ih =>
    obtain ⟨m, h1, h2, h3⟩ := ih (max n (p.1 + p.2.size))
    refine ⟨m, ?_, by omega, fun f hf => h3 (ovr f p) (by rw [ovr_len, hf])⟩
    rw [← h1]
    unfold sizeL
    rw [List.foldl_cons]
    congr 1
    omega
theorem sizeL_ge (P : List Pt) : ∀ (n : Int), n ≤ sizeL P n ∧ ∀ p ∈ P, ((p.1 + p.2.size : Nat) : Int) ≤ sizeL P n := by
  induction P with
  | nil => exact fun n => ⟨Int.le_refl _, fun p hp => by simp at hp⟩
  | cons q P ih =>
    intro n
    obtain ⟨h1, h2⟩ := ih (max n ((q.1 + q.2.size : Nat) : Int))
    have e : sizeL (q :: P) n = sizeL P (max n ((q.1 + q.2.size : Nat) : Int)) := rfl
    rw [e]
    refine ⟨by omega, fun p hp => ?_⟩
    rcases List.mem_cons.1 hp with rfl | hp
    · omega
    · exact h2 p hp
theorem sizeL_le (P : List Pt) (hP : ∀ p ∈ P, PtOk p) : ∀ (n B : Int), n ≤ B → 32768 ≤ B → sizeL P n ≤ B := by
  induction P with
  | nil => exact fun n B h _ => h
  | cons q P ih =>
    intro n B h1 h2
    have e : sizeL (q :: P) n = sizeL P (max n ((q.1 + q.2.size : Nat) : Int)) := rfl
    rw [e]
    have := (hP q (List.mem_cons_self ..)).2
    exact ih (fun p hp => hP p (List.mem_cons_of_mem _ hp)) _ B (by omega) h2
theorem overL_snoc (P : List Pt) (p : Pt) (f : List UInt8) : overL (P ++ [p]) f = ovr (overL P f) p := by simp [overL]
/-- The program's row: as long as the file will be, from the start. -/
theorem ext_ovr {f : List UInt8} {p : Pt} {N : Nat} (h : p.1 + p.2.size ≤ N) (hf : f.length ≤ N) : putB (ext f N) p.1 p.2.data.toList = ext (ovr f p) N := by
  apply List.ext_getElem?
  intro i
  rw [putB_at (by rw [ext_len, size_len]; omega), ext_at, ext_at, ovr_len, ovr_at, size_len]
  by_cases c1 : p.1 ≤ i ∧ i < p.1 + p.2.size
  · rw [if_pos c1, if_pos c1, if_pos (by omega)]
  · rw [if_neg c1, if_neg c1]
    by_cases c2 : i < f.length
    · rw [if_pos c2, if_pos c2, if_pos (by omega)]
    · rw [if_neg c2, if_neg c2]
      by_cases c3 : i < p.1 + p.2.size
      · rw [if_pos (show i < N by omega), if_pos (by omega), if_pos c3]
      · by_cases c4 : i < N
        · rw [if_pos c4, if_neg (by omega)]
        · rw [if_neg c4, if_neg (by omega)]
theorem made_u8 (N : Nat) : madeCells #[Value.int .u8 0] N = (List.replicate N (Value.int .u8 0)).toArray := by
  apply Array.ext
  · simp [size_madeCells]
  · intro i h1 h2
    simp [madeCells, Nat.mod_one]
set_option maxRecDepth 100000 in
theorem make30 (w : World) (N : Nat) (h : N ≤ 200000) : (Instr.makeSlice 30 (.int .i64 N) (.int .i64 N)).run Tryd.prog w = .ok (.slice (some ⟨w.heap.size, 0, none⟩) N N) (w.alloc (.cells ((List.replicate N (0 : UInt8)).map B8).toArray 5)) := by
  obtain ⟨i, hi, hz, hs, hby⟩ : ∃ i, Tryd.prog.info? 5 = some i ∧ i.zero = some (.int .u8 0) ∧ i.size = 1 ∧ i.bytes = 1 := ⟨_, rfl, rfl, rfl, rfl⟩
  have := run_makeSlice (P := Tryd.prog) w 30 5 i (.int .u8 0) Tryd.underlying30 hi hz .i64 .i64 N N (by omega) (by omega) (by rw [hs]; simp; omega) (by rw [hby]; omega) (by omega)
  rw [this, hs]
  simp only [Int.toNat_natCast, Nat.mul_one]
  rw [show (Value.int .u8 0).cells = #[Value.int .u8 0] from rfl, made_u8, List.map_replicate]
  rfl
set_option maxRecDepth 100000 in
theorem sz5 : (Tryd.prog.info? 5).map (·.size) = some 1 := rfl
/-- copy of a text into a row of bytes. -/
theorem copy_row {W : World} {g : Nat} {l : List UInt8} (h : RowAt W g 5 (l.map B8)) (a : Nat) (t : ByteArray) (ha : a + t.size ≤ l.length) (dCap : Nat) :
    ∃ W', (Builtin.copy_ #[30, 9] 3 #[.slice (some ⟨g, a, none⟩) (l.length - a) dCap, .string t]).run Tryd.prog W = .ok (.int .i64 (t.size : Int)) W' ∧ RowAt W' g 5 ((putB l a t.data.toList).map B8) ∧ Fr (· = g) W W' := by
  refine ⟨_, Lib.run_copy_row_string (P := Tryd.prog) W 30 9 3 5 g a (l.length - a) dCap t _ 5 Tryd.underlying30 sz5 h (by omega) (by simp; omega), ?_, ?_⟩
  · have := setRow_heap W g _ ((((l.map B8).toArray).toList.take a ++ Lib.byteCells t.data.toList ++ ((l.map B8).toArray).toList.drop (a + t.size)).toArray) 5 (0, 0) h
    unfold RowAt
    rw [this]
    congr 2
    unfold putB
    rw [size_len]
    simp only [List.map_append, List.map_take, List.map_drop]
    rfl
  · exact ⟨rfl, rfl, rfl, by simp [World.setRow], fun k _ hk => setRow_other W g k _ hk⟩
end Go.Proofs.YtkcebbidmlnmmaaDoor
