/- The law AttrPlans walked: it returns true at every input and writes nothing that was there. -/
import Derived.Test.YtkdemfahabnbjaaWd
import Derived.BigQuiet
namespace Go.Proofs.Ytkdemfahabnbjaa
open Go.RowKit

/-- A world that is as w was, below block B. -/
structure Bw (B : Nat) (w : World) where
  val : World
  ok : Below B w val
instance (B : Nat) (w : World) : Nonempty (Bw B w) := ⟨⟨w, Below.refl _ _⟩⟩

theorem wp_region_bw {P : Program} {id : Nat} {Q : Exit → Act → World → Prop} {a : Act} {w : World} {l : List Oper} (B : Nat) (hm : P.follows .mixedOrders = true) (hB : Region.lexB .any l.toArray = true)
    (h : wpQuiet P l.toArray (fun w' => ∃ x : Bw B w, w' = x.val) (fun a' => ∀ w', (∃ x : Bw B w, w' = x.val) → Q .normal a' w') l a) : (Code.region id l.toArray true).wp P Q a w :=
  wp_region_quiet (C := fun w' => ∃ x : Bw B w, w' = x.val) hm hB ⟨⟨w.drew, (Below.refl _ _).drew⟩, rfl⟩ (by simpa using h)

theorem Calls.bw {P : Program} {f : FuncId} {args : Array Value} {B : Nat} {w : World} {v : Value} (hB : B ≤ w.heap.size) (x : Bw B w)
    (h : Calls P f args x.val fun e w' => e = .returned v ∧ Below x.val.heap.size x.val w') : Calls P f args x.val fun e w'' => e = .returned v ∧ ∃ y : Bw B w, w'' = y.val :=
  h.mono fun _ w'' ⟨he, hb⟩ => ⟨he, ⟨w'', x.ok.trans (hb.mono (Nat.le_trans hB x.ok.size))⟩, rfl⟩

theorem planV (k m l s t c i g mode size guard now K M L S T C I G E : Int) (w : World) (h : planF ⟨k, m, l, s, t, c, i, g⟩ mode size guard now = (⟨K, M, L, S, T, C, I, G⟩, E)) :
    Calls Try.prog 8 #[.agg #[.int .u8 k, .int .i64 m, .int .i64 l, .int .i64 s, .int .i64 t, .int .i64 c, .int .i64 i, .int .i64 g], .int .i64 mode, .int .i64 size, .int .i64 guard, .int .i64 now] w fun e w' =>
      e = .returned (.tuple #[.agg #[.int .u8 K, .int .i64 M, .int .i64 L, .int .i64 S, .int .i64 T, .int .i64 C, .int .i64 I, .int .i64 G], .int .i64 E]) ∧ Below w.heap.size w w' :=
  (plan_any k m l s t c i g mode size guard now w).mono fun e w' ⟨h1, h2⟩ => ⟨by rw [h1, h]; rfl, h2⟩
theorem planRV (k m l s t c i g mode size guard now K M L S T C I G E : Int) (w : World) (h : planF ⟨k, m, l, s, t, c, i, g⟩ mode size guard now = (⟨K, M, L, S, T, C, I, G⟩, E)) :
    Calls Try.prog 9 #[.agg #[.int .u8 k, .int .i64 m, .int .i64 l, .int .i64 s, .int .i64 t, .int .i64 c, .int .i64 i, .int .i64 g], .int .i64 mode, .int .i64 size, .int .i64 guard, .int .i64 now] w fun e w' =>
      e = .returned (.tuple #[.agg #[.int .u8 K, .int .i64 M, .int .i64 L, .int .i64 S, .int .i64 T, .int .i64 C, .int .i64 I, .int .i64 G], .int .i64 E]) ∧ Below w.heap.size w w' :=
  (planR_any k m l s t c i g mode size guard now w).mono fun e w' ⟨h1, h2⟩ => ⟨by rw [h1, h]; rfl, h2⟩
theorem sameV (k m l s t c i g k2 m2 l2 s2 t2 c2 i2 g2 : Int) (r : Bool) (w : World) (h : sameF ⟨k, m, l, s, t, c, i, g⟩ ⟨k2, m2, l2, s2, t2, c2, i2, g2⟩ = r) :
    Calls Try.prog 11 #[.agg #[.int .u8 k, .int .i64 m, .int .i64 l, .int .i64 s, .int .i64 t, .int .i64 c, .int .i64 i, .int .i64 g], .agg #[.int .u8 k2, .int .i64 m2, .int .i64 l2, .int .i64 s2, .int .i64 t2, .int .i64 c2, .int .i64 i2, .int .i64 g2]] w fun e w' => e = .returned (.bool r) ∧ Below w.heap.size w w' := by
  subst h; exact sameR_any k m l s t c i g k2 m2 l2 s2 t2 c2 i2 g2 w


/-- The eight cells of what an object is, at a block. -/
def AttAt (w : World) (b : Nat) (a : Att) : Prop := w.heap[b]? = some (.cells a.cells 23 (0, 0))

theorem AttAt.cell {w : World} {b : Nat} {k m l s t c i g : Int} (h : AttAt w b ⟨k, m, l, s, t, c, i, g⟩) :
    w.cell? ⟨b, 0, none⟩ = some (.int .u8 k) ∧ w.cell? ⟨b, 1, none⟩ = some (.int .i64 m) ∧ w.cell? ⟨b, 2, none⟩ = some (.int .i64 l) ∧ w.cell? ⟨b, 3, none⟩ = some (.int .i64 s) ∧ w.cell? ⟨b, 4, none⟩ = some (.int .i64 t) ∧ w.cell? ⟨b, 5, none⟩ = some (.int .i64 c) ∧ w.cell? ⟨b, 6, none⟩ = some (.int .i64 i) ∧ w.cell? ⟨b, 7, none⟩ = some (.int .i64 g) := by
  unfold AttAt at h
  simp [World.cell?, h, Att.cells]
theorem AttAt.below {w w' : World} {b B : Nat} {a : Att} (h : AttAt w b a) (hb : Below B w w') (hl : b < B) : AttAt w' b a := by
  unfold AttAt at *; rw [hb.block b hl]; exact h
theorem AttAt.alloc {w : World} {b : Nat} {a : Att} (h : AttAt w b a) (o : Obj) : AttAt (w.alloc o) b a := by
  unfold AttAt at *
  have hlt : b < w.heap.size := by
    by_cases hh : b < w.heap.size
    · exact hh
    · rw [Array.getElem?_eq_none (by omega)] at h; cases h
  rw [Below.heap_alloc w o b hlt]; exact h
theorem AttAt.new (w : World) (k m l s t c i g : Int) : AttAt (w.alloc (.cells #[.int .u8 k, .int .i64 m, .int .i64 l, .int .i64 s, .int .i64 t, .int .i64 c, .int .i64 i, .int .i64 g] 23)) w.heap.size ⟨k, m, l, s, t, c, i, g⟩ := by
  unfold AttAt
  show (w.heap.push _)[w.heap.size]? = _
  simp [Att.cells]
theorem AttAt.lt {w : World} {b : Nat} {a : Att} (h : AttAt w b a) : b < w.heap.size := by
  by_cases hh : b < w.heap.size
  · exact hh
  · unfold AttAt at h; rw [Array.getElem?_eq_none (by omega)] at h; cases h
theorem AttAt.next {w w' : World} {b : Nat} {a : Att} (h : AttAt w b a) (hb : Below w.heap.size w w') : AttAt w' b a := h.below hb h.lt

set_option maxHeartbeats 2000000 in
theorem attrPlans_any (k m l s t c i g k2 m2 l2 s2 t2 c2 i2 g2 mode size guard now : Int) (w : World) :
    Calls Try.prog 3 #[.agg #[.int .u8 k, .int .i64 m, .int .i64 l, .int .i64 s, .int .i64 t, .int .i64 c, .int .i64 i, .int .i64 g], .agg #[.int .u8 k2, .int .i64 m2, .int .i64 l2, .int .i64 s2, .int .i64 t2, .int .i64 c2, .int .i64 i2, .int .i64 g2], .int .i64 mode, .int .i64 size, .int .i64 guard, .int .i64 now] w fun e w' => e = .returned (.bool true) ∧ Below w.heap.size w w' := by
  obtain ⟨K, M, L, S, T, C, I, G, E, h⟩ : ∃ K M L S T C I G E, planF ⟨k, m, l, s, t, c, i, g⟩ mode size guard now = (⟨K, M, L, S, T, C, I, G⟩, E) := ⟨_, _, _, _, _, _, _, _, _, rfl⟩
  have H := Lib.hid h
  clear h
  go_enter Try.func3, Try.ntmps3
  go_wp2_with fail
  refine (planV k m l s t c i g mode size guard now K M L S T C I G E _ H.out).mono ?_
  rintro e w1 ⟨rfl, hb1⟩
  have A := ((AttAt.new w k m l s t c i g).alloc _).next hb1
  have B := (AttAt.new (w.alloc _) k2 m2 l2 s2 t2 c2 i2 g2).next hb1
  have hw1 := bt (below2 w _ _) hb1
  have hz1 : w.heap.size + 1 < w1.heap.size := by have := hb1.size; simp at this; omega
  have hz0 : w.heap.size < w1.heap.size := by omega
  clear hb1
  simp only [World.size_alloc] at B
  have qA := A.cell
  go_wp2_with fail
  refine (planRV k m l s t c i g mode size guard now K M L S T C I G E _ H.out).mono ?_
  rintro e w2 ⟨rfl, hb2⟩
  have A2 := (A.alloc _).next hb2
  have B2 := (B.alloc _).next hb2
  have C2 := (AttAt.new w1 K M L S T C I G).next hb2
  have hw2 := btA hw1 hb2
  have hz2 : w1.heap.size < w2.heap.size := by have := hb2.size; simp at this; omega
  clear qA hb2 hw1 A B
  go_wp2_with fail
  have A3 := A2.alloc (.cells #[.int .u8 K, .int .i64 M, .int .i64 L, .int .i64 S, .int .i64 T, .int .i64 C, .int .i64 I, .int .i64 G] 23)
  have B3 := B2.alloc (.cells #[.int .u8 K, .int .i64 M, .int .i64 L, .int .i64 S, .int .i64 T, .int .i64 C, .int .i64 I, .int .i64 G] 23)
  have C3 := C2.alloc (.cells #[.int .u8 K, .int .i64 M, .int .i64 L, .int .i64 S, .int .i64 T, .int .i64 C, .int .i64 I, .int .i64 G] 23)
  have D3 := AttAt.new w2 K M L S T C I G
  have hw3 := hw2.alloc hw2.size (.cells #[.int .u8 K, .int .i64 M, .int .i64 L, .int .i64 S, .int .i64 T, .int .i64 C, .int .i64 I, .int .i64 G] 23)
  clear A2 B2 C2 hw2
  have hsz : w2.heap.size < (w2.alloc (.cells #[.int .u8 K, .int .i64 M, .int .i64 L, .int .i64 S, .int .i64 T, .int .i64 C, .int .i64 I, .int .i64 G] 23)).heap.size := by simp
  generalize w2.alloc (.cells #[.int .u8 K, .int .i64 M, .int .i64 L, .int .i64 S, .int .i64 T, .int .i64 C, .int .i64 I, .int .i64 G] 23) = W at *
  refine wp_region_bw W.heap.size (by kernel_rfl) (by kernel_rfl) ?_
  have a4 := fun x : Bw W.heap.size W => (A3.next x.ok).cell
  have b4 := fun x : Bw W.heap.size W => (B3.next x.ok).cell
  have c4 := fun x : Bw W.heap.size W => (C3.next x.ok).cell
  have d4 := fun x : Bw W.heap.size W => (D3.next x.ok).cell
  clear A3 B3 C3 D3
  repeat (go_big_quiet_step (first | (go_at_call 10; exact Calls.bw (Nat.le_refl _) _ (same_lit _ _ _ _ _ _ _ _ _ _ _ _ _ _ _ _ _ _ rfl)) | (go_at_call 11; exact Calls.bw (Nat.le_refl _) _ (sameV _ _ _ _ _ _ _ _ _ _ _ _ _ _ _ _ _ _ rfl)) | (go_at_call 12; exact Calls.bw (Nat.le_refl _) _ (awake_any _))))
  refine wpQuiet_nil ?_
  rintro w' ⟨x, rfl⟩
  go_wp2
  go_ret
  exact ⟨rfl, bt hw3 x.ok⟩
end Go.Proofs.Ytkdemfahabnbjaa
