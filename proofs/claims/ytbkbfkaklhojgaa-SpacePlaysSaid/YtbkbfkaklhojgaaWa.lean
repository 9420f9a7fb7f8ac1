/- A space in memory; put. -/
import Derived.Test.YtbkbfkaklhojgaaMp
import Derived.Test.YtbkbfkaklhojgaaSe
import Derived.StillTailTactics
namespace Go.Proofs.Ytbkbfkaklhojgaa
open Go.RowKit
def upd {α : Type} (f : Nat → α) (i : Nat) (v : α) : Nat → α := fun j => if j = i then v else f j
/-- A space's cells: how many blocks, the last one, the states, the counts. -/
structure SL (L : List Value) (N last : Int) (f : Nat → Nat) (c : Nat → Int) : Prop where
  len : L.length = 8198
  n : L[0]? = some (.int .i64 N)
  l : L[1]? = some (.int .i64 last)
  is : ∀ i, i < 8192 → L[2 + i]? = some (.int .u8 (f i))
  ct : ∀ j, j < 4 → L[8194 + j]? = some (.int .i64 (c j))
theorem SL.setIs {L : List Value} {N last : Int} {f : Nat → Nat} {c : Nat → Int} (h : SL L N last f c) (i v : Nat) (hi : i < 8192) : SL (L.set (2 + i) (.int .u8 v)) N last (upd f i v) c := by
  refine ⟨by simp [h.len], ?_, ?_, fun j hj => ?_, fun j hj => ?_⟩
  · rw [List.getElem?_set_ne (by omega)]; exact h.n
  · rw [List.getElem?_set_ne (by omega)]; exact h.l
  · unfold upd
    by_cases e : j = i
    · subst e; rw [if_pos rfl, List.getElem?_set_self (by rw [h.len]; omega)]
    · rw [if_neg e, List.getElem?_set_ne (by omega)]; exact h.is j hj
  · rw [List.getElem?_set_ne (by omega)]; exact h.ct j hj
theorem SL.setCt {L : List Value} {N last : Int} {f : Nat → Nat} {c : Nat → Int} (h : SL L N last f c) (i : Nat) (v : Int) (hi : i < 4) : SL (L.set (8194 + i) (.int .i64 v)) N last f (upd c i v) := by
  refine ⟨by simp [h.len], ?_, ?_, fun j hj => ?_, fun j hj => ?_⟩
  · rw [List.getElem?_set_ne (by omega)]; exact h.n
  · rw [List.getElem?_set_ne (by omega)]; exact h.l
  · rw [List.getElem?_set_ne (by omega)]; exact h.is j hj
  · unfold upd
    by_cases e : j = i
    · subst e; rw [if_pos rfl, List.getElem?_set_self (by rw [h.len]; omega)]
    · rw [if_neg e, List.getElem?_set_ne (by omega)]; exact h.ct j hj
theorem SL.setLast {L : List Value} {N last : Int} {f : Nat → Nat} {c : Nat → Int} (h : SL L N last f c) (v : Int) : SL (L.set 1 (.int .i64 v)) N v f c := by
  refine ⟨by simp [h.len], ?_, ?_, fun j hj => ?_, fun j hj => ?_⟩
  · rw [List.getElem?_set_ne (by omega)]; exact h.n
  · rw [List.getElem?_set_self (by rw [h.len]; omega)]
  · rw [List.getElem?_set_ne (by omega)]; exact h.is j hj
  · rw [List.getElem?_set_ne (by omega)]; exact h.ct j hj
def SpAt (w : World) (b : Nat) (N last : Int) (f : Nat → Nat) (c : Nat → Int) : Prop := ∃ L, RowAt w b 52 L ∧ SL L N last f c
/-- The counts behind a put. -/
def ctP (c : Nat → Int) (x t : Nat) : Nat → Int := upd (upd c x (c x - 1)) t (upd c x (c x - 1) t + 1)
theorem SpAt.next {w w' : World} {b : Nat} {N last : Int} {f : Nat → Nat} {c : Nat → Int} (h : SpAt w b N last f c) (hb : Below w.heap.size w w') : SpAt w' b N last f c := by
  obtain ⟨L, h1, h2⟩ := h
  exact ⟨L, h1.next hb, h2⟩
theorem SpAt.fr {M : Nat → Prop} {w w' : World} {b : Nat} {N last : Int} {f : Nat → Nat} {c : Nat → Int} (h : SpAt w b N last f c) (hf : Fr M w w') (hm : ¬ M b) : SpAt w' b N last f c := by
  obtain ⟨L, h1, h2⟩ := h
  refine ⟨L, ?_, h2⟩
  have := hf.block b h1.lt hm
  unfold RowAt at *
  rw [this]; exact h1
set_option maxRecDepth 20000 in
set_option maxHeartbeats 4000000 in
theorem put_any (w : World) (b : Nat) (N last : Int) (f : Nat → Nat) (c : Nat → Int) (h : SpAt w b N last f c) (n t : Nat) (hn : n < 8192) (ht : t < 4) (hf : f n < 4) (hc : ∀ j, j < 4 → -100000 ≤ c j ∧ c j ≤ 100000) :
    Calls Try.prog 22 #[.pointer (some ⟨b, 0, none⟩), .int .i64 n, .int .u8 t] w fun e w' => e = .returned (.tuple #[]) ∧ SpAt w' b N last (upd f n t) (ctP c (f n) t) ∧ Fr (· = b) w w' := by
  obtain ⟨L, hr, hs⟩ := h
  obtain ⟨x, hx⟩ : ∃ x, x = f n := ⟨_, rfl⟩
  have HR := Lib.hid hr
  have HS := Lib.hid hs
  have c1 := (hr.cell (2 + n)).trans (hs.is n hn)
  have f1 := hr.free (2 + n)
  rw [← hx] at c1 hf ⊢
  have c2 := (hr.cell (8194 + x)).trans (hs.ct x hf)
  have f2 := hr.free (8194 + x)
  have hcx := hc x hf
  have n0 : (0 : Int) ≤ (n : Int) := by omega
  have n1 : (n : Int) < 8192 := by omega
  have t0 : (0 : Int) ≤ (t : Int) := by omega
  have t1 : (t : Int) < 4 := by omega
  have x0 : (0 : Int) ≤ (x : Int) := by omega
  have x1 : (x : Int) < 4 := by omega
  have HC := Lib.hid hc
  have HX := Lib.hid hx
  clear hr hs hc hx
  go_enter Try.func22, Try.ntmps22
  go_wp2_with fail
  go_region
  go_wp2_with fail
  have HR1 := Lib.hid (HR.out.set (8194 + x) (.int .i64 (c x - 1))).drew
  have HS1 := Lib.hid (HS.out.setCt x (c x - 1) hf)
  have HF1 : Hid (Fr (· = b) w (w.setCell ⟨b, 8194 + x, none⟩ (.int .i64 (c x - 1))).drew) := Lib.hid (((Fr.refl (· = b) w).setCell (b := b) rfl _).drew)
  clear c1 c2 f1 f2
  generalize (w.setCell ⟨b, 8194 + x, none⟩ (.int .i64 (c x - 1))).drew = w1 at *
  generalize L.set (8194 + x) (.int .i64 (c x - 1)) = L1 at *
  have hyb : -100001 ≤ upd c x (c x - 1) t ∧ upd c x (c x - 1) t ≤ 100001 := by
    have := HC.out t ht
    unfold upd
    split <;> omega
  obtain ⟨y, hy⟩ : ∃ y, y = upd c x (c x - 1) t := ⟨_, rfl⟩
  have d1 := (HR1.out.cell (8194 + t)).trans (HS1.out.ct t ht)
  have g1 := HR1.out.free (8194 + t)
  rw [← hy] at d1 hyb
  have HY := Lib.hid hy
  clear hy
  go_region
  have HR2 := Lib.hid (HR1.out.set (8194 + t) (.int .i64 (y + 1))).drew
  have HS2 := Lib.hid (HS1.out.setCt t (y + 1) ht)
  have HF2 : Hid (Fr (· = b) w (w1.setCell ⟨b, 8194 + t, none⟩ (.int .i64 (y + 1))).drew) := Lib.hid ((HF1.out.setCell (b := b) rfl _).drew)
  clear d1 g1
  generalize (w1.setCell ⟨b, 8194 + t, none⟩ (.int .i64 (y + 1))).drew = w2 at *
  generalize L1.set (8194 + t) (.int .i64 (y + 1)) = L2 at *
  have e1 := (HR2.out.cell (2 + n)).trans (HS2.out.is n hn)
  have k1 := HR2.out.free (2 + n)
  go_wp2
  go_end0
  refine ⟨rfl, ⟨_, HR2.out.set (2 + n) _, ?_⟩, HF2.out.setCell (b := b) rfl _⟩
  have := HS2.out.setIs n t hn
  rw [HY.out] at this
  exact this
end Go.Proofs.Ytbkbfkaklhojgaa
