/- A range over a function, where the body may change what the iterator reads and the iterator may keep state of its own. -/
import Derived.RangeFuncNested
import Derived.RangeFuncLeaves
import Derived.RangeFuncBound
import Derived.RangeFuncCalls
import Derived.Shelf.Abstract
import Derived.Shelf.RegionOpen
import Derived.WalkKit
import Derived.OwnWalkIn
import Derived.TacticsInMore
import Derived.LoopNIn
import Derived.LoopIn
namespace Go.Proofs.Ytbkbfkaklhojgaa
open Go.RowKit
/-- The loop's record and its block for deferred calls lie as they lay. -/
def Keep2 (B : Nat) (W W' : World) : Prop := ∀ (k : Nat) (o : Obj), B ≤ k → k ≤ B + 1 → W.heap[k]? = some o → W'.heap[k]? = some o
theorem Keep2.refl (B : Nat) (W : World) : Keep2 B W W := fun _ _ _ _ h => h
theorem Keep2.trans {B : Nat} {X Y Z : World} (h : Keep2 B X Y) (k : Keep2 B Y Z) : Keep2 B X Z := fun i o h1 h2 h3 => k i o h1 h2 (h i o h1 h2 h3)
def rfPost {σ : Type} (B : Nat) (Kp : World → World → Prop) (I : σ → World → Prop) (N : σ → Prop) (Ix : Code → World → Prop) (W : World) : Exit → Act → World → Prop
  | .normal, _, W' => Keep2 B W W' ∧ Kp W W' ∧ ∃ s, N s ∧ I s W'
  | .ret, _, W' => Keep2 B W W' ∧ Ix .ret W'
  | .exit id, _, W' => Keep2 B W W' ∧ Ix (.exit id) W'
  | .goto t, _, W' => Keep2 B W W' ∧ Ix (.goto t) W'
  | .panic _, _, _ => False
  | .outgrown, _, _ => False
/-- What an iterator is, to a caller whose heap has B blocks where the loop begins. -/
def Iter {σ α : Type} (n : Nat) (P : Program) (gf : Nat) (lb : Array Value) (w : World) (encs : α → Array Value) (I : σ → World → Prop) (Fin : σ → Prop) (Ok : σ → α → Prop) (nxt : σ → α → σ → Prop) (s0 : σ) (St Kp : World → World → Prop) : Prop :=
  ∀ (J : σ → World → Prop) (Jx : World → Prop) (W1 : World), Below w.heap.size w W1 → W1.heap.size = w.heap.size + 2 → (∀ s W, J s W → I s W) → (∀ s W W', J s W → St W W' → J s W') → (∀ W W', Jx W → St W W' → Jx W') →
    (∀ s x W, J s W → Ok s x → YieldAt Fence.wide (n - 1 - 1) P (w.heap.size + 1) (encs x) W fun e W' => (e = .returned (.bool true) ∧ (∃ s', nxt s x s' ∧ J s' W') ∧ Kp W W') ∨ (e = .returned (.bool false) ∧ Jx W')) →
    J s0 W1 → CallsIn Fence.wide (n - 1) P gf (#[.func (.yield (w.heap.size + 1)) #[] #[]] ++ lb) W1 fun e W' => (∃ v, e = .returned v) ∧ ((∃ s, Fin s ∧ J s W') ∨ Jx W')
theorem wpIn_range_own {σ α : Type} {n : Nat} {P : Program} {g : Operand} {ps : Array Tmp} {assign body : Code} {Q : Exit → Act → World → Prop} {a : Act} {w : World} {gf : Nat} {lb : Array Value}
    (hg : a.eval g = .func (.func gf) #[] lb) (eg : ∀ args w, (callFunc gf args).run P w = .ok (.enter gf args) w)
    {encs : α → Array Value} (hps : ∀ x, (encs x).size = ps.size)
    {I : σ → World → Prop} (Ix : Code → World → Prop) {Fin : σ → Prop} {Ok : σ → α → Prop} {nxt : σ → α → σ → Prop} {s0 : σ} {St Kp : World → World → Prop}
    (hiter : Iter n P gf lb w encs I Fin Ok nxt s0 St Kp)
    (hSt : ∀ W W', St W W' → Keep2 w.heap.size W W')
    (hIs : ∀ s W W', I s W → St W W' → I s W') (hIxs : ∀ c W W', Ix c W → St W W' → Ix c W')
    (hIp : ∀ s W k o, w.heap.size ≤ k → k ≤ w.heap.size + 1 → k < W.heap.size → I s W → I s (W.putObj k o)) (hIxp : ∀ c W k o, w.heap.size ≤ k → k ≤ w.heap.size + 1 → k < W.heap.size → Ix c W → Ix c (W.putObj k o))
    (h0 : ∀ r, I s0 ((w.alloc (.deferred (some []))).alloc (.loop r)))
    (hKt : ∀ A B C, Kp A B → Kp B C → Kp A C) (hKb : ∀ W o, w.heap.size + 1 < W.heap.size → Kp W (W.putObj (w.heap.size + 1) o))
    (a₁ : α → Act)
    (hassign : ∀ (x : α) (W : World) (K : Act → World → Prop), K (a₁ x) W → assign.wpIn (Fence.wide.inRound (w.heap.size + 1)) (n - 1 - 1) P (Exit.then K (fun _ _ _ => False)) { tmps := (ps.zip (encs x)).foldl (fun t (p, v) => t.setIfInBounds p v) a.tmps, defers := [] } W)
    (hbody : ∀ (s : σ) (x : α) (W : World), w.heap.size + 1 < W.heap.size → I s W → Ok s x → body.wpIn (Fence.wide.inRound (w.heap.size + 1)) (n - 1 - 1) P (rfPost w.heap.size Kp I (nxt s x) Ix W) (a₁ x) W)
    (hdone : ∀ (s : σ) (W : World), Fin s → I s W → W.heap[w.heap.size]? = some (.deferred (some [])) → Q .normal { a with defers := { target := .collected w.heap.size, args := #[] } :: a.defers } W)
    (hstop : ∀ (c : Code) (W : World), Ix c W → W.heap[w.heap.size]? = some (.deferred (some [])) → c.wpIn Fence.wide n P Q { a with defers := { target := .collected w.heap.size, args := #[] } :: a.defers } W) :
    (Code.rangeFunc g ps assign body).wpIn Fence.wide n P Q a w := by
  refine wpIn_rangeFunc ?_
  intro fn hfn
  rw [show Fence.wide.round = none from rfl]
  obtain ⟨rec, hrec⟩ : ∃ rec : LoopState → Option Code → Loop, rec = fun st pe => { state := st, pending := pe, fn, tmps := a.tmps, params := ps, assign, body, defers := w.heap.size } := ⟨_, rfl⟩
  obtain ⟨W1, hW1⟩ : ∃ W1, (w.alloc (.deferred (some []))).alloc (.loop (rec .ready none)) = W1 := ⟨_, rfl⟩
  have hL1 : W1.heap[w.heap.size + 1]? = some (.loop (rec .ready none)) := by
    rw [← hW1]; have := World.alloc_heap_new (w.alloc (.deferred (some []))) (.loop (rec .ready none)); rwa [World.size_alloc] at this
  have hK1 : W1.heap[w.heap.size]? = some (.deferred (some [])) := by
    rw [← hW1]; exact (Below.heap_alloc _ _ _ (by simp)).trans (World.alloc_heap_new w _)
  have hI1 : I s0 W1 := by rw [← hW1]; exact h0 _
  have hz1 : W1.heap.size = w.heap.size + 2 := by rw [← hW1]; simp
  have hb1 : Below w.heap.size w W1 := by
    rw [← hW1]; exact ((Below.refl _ w).alloc (Nat.le_refl _) _).alloc (by simp) _
  refine ⟨w.heap.size + 1, [{ target := .collected w.heap.size, args := #[] }], W1, { target := .fn (.func gf) lb, args := #[.func (.yield (w.heap.size + 1)) #[] #[]] }, W1, gf,
    #[.func (.yield (w.heap.size + 1)) #[] #[]] ++ lb, W1, ?_, ?_, ?_, ?_, fun h => by simp [Fence.wide] at h, ?_⟩
  · rw [← hW1, hrec]; exact run_enterLoop_outer _ _ _ _ _
  · simp only [resolve, hg]
    simp [go_sem]
  · intro f' _; trivial
  · simp [invoke, go_sem, eg]
  · refine (hiter
      (fun s W => I s W ∧ W.heap[w.heap.size + 1]? = some (.loop (rec .ready none)) ∧ W.heap[w.heap.size]? = some (.deferred (some [])))
      (fun W => ∃ c, Ix c W ∧ W.heap[w.heap.size + 1]? = some (.loop (rec .done (some c))) ∧ W.heap[w.heap.size]? = some (.deferred (some [])))
      W1 hb1 hz1 (fun _ _ h => h.1)
      (fun s A B h hs => ⟨hIs s A B h.1 hs, hSt A B hs _ _ (by omega) (by omega) h.2.1, hSt A B hs _ _ (by omega) (by omega) h.2.2⟩)
      (fun A B h hs => by obtain ⟨c, h1, h2, h3⟩ := h; exact ⟨c, hIxs c A B h1 hs, hSt A B hs _ _ (by omega) (by omega) h2, hSt A B hs _ _ (by omega) (by omega) h3⟩)
      ?_ ⟨hI1, hL1, hK1⟩).mono ?_
    · rintro s x W ⟨hi, hl, hk⟩ hok
      have hlt : w.heap.size + 1 < W.heap.size := (Array.getElem?_eq_some_iff.1 hl).1
      have hy := run_yield (P := P) (args := encs x) hl (by rw [hrec]; exact hps x)
      rw [hrec] at hy
      refine ⟨fn, _, assign, body, hy, roundIn_of_wpIn hfn (hassign x W _ ?_)⟩
      clear hy
      refine ⟨_, run_beginRound hl (by rw [hrec]), ?_⟩
      have hl2 : (W.putObj (w.heap.size + 1) (.loop { rec .ready none with state := .busy })).heap[w.heap.size + 1]? = some (.loop { rec .ready none with state := .busy }) := World.putObj_heap_same hlt
      have hk2 : (W.putObj (w.heap.size + 1) (.loop { rec .ready none with state := .busy })).heap[w.heap.size]? = some (.deferred (some [])) := (World.putObj_heap_other (by omega)).trans hk
      have hw2 : Kp W (W.putObj (w.heap.size + 1) (.loop { rec .ready none with state := .busy })) := hKb _ _ hlt
      have hlt2 : w.heap.size + 1 < (W.putObj (w.heap.size + 1) (.loop { rec .ready none with state := .busy })).heap.size := (Array.getElem?_eq_some_iff.1 hl2).1
      refine wpIn_mono (hbody s x _ hlt2 (hIp _ _ _ _ (by omega) (by omega) hlt hi) hok) ?_
      have fin : ∀ (jump : Option Code) (W3 : World), Keep2 w.heap.size (W.putObj (w.heap.size + 1) (.loop { rec .ready none with state := .busy })) W3 →
          (Instr.endRound (w.heap.size + 1) jump).run P W3 = .ok (.bool jump.isNone) (W3.putObj (w.heap.size + 1) (.loop (rec (if jump.isNone then .ready else .done) jump))) ∧
          w.heap.size + 1 < W3.heap.size ∧
          (W3.putObj (w.heap.size + 1) (.loop (rec (if jump.isNone then .ready else .done) jump))).heap[w.heap.size + 1]? = some (.loop (rec (if jump.isNone then .ready else .done) jump)) ∧
          (W3.putObj (w.heap.size + 1) (.loop (rec (if jump.isNone then .ready else .done) jump))).heap[w.heap.size]? = some (.deferred (some [])) := fun jump W3 hk3 => by
        have hl3 := hk3 _ _ (by omega) (by omega) hl2
        have := run_endRound (P := P) jump hl3
        rw [hrec] at this ⊢
        exact ⟨this, (Array.getElem?_eq_some_iff.1 hl3).1, World.putObj_heap_same (Array.getElem?_eq_some_iff.1 hl3).1, (World.putObj_heap_other (by omega)).trans (hk3 _ _ (by omega) (by omega) hk2)⟩
      rintro e a3 W3 hp
      cases e with
      | normal =>
        obtain ⟨hk3, hkp3, s', hn, hi3⟩ := hp
        obtain ⟨hr, hl3, hl4, hk4⟩ := fin none W3 hk3
        exact ⟨_, _, hr, .inl ⟨rfl, ⟨s', hn, hIp _ _ _ _ (by omega) (by omega) hl3 hi3, hl4, hk4⟩, hKt _ _ _ hw2 (hKt _ _ _ hkp3 (hKb _ _ hl3))⟩⟩
      | ret =>
        obtain ⟨hk3, hi3⟩ := hp
        obtain ⟨hr, hl3, hl4, hk4⟩ := fin (some .ret) W3 hk3
        exact ⟨_, _, hr, .inr ⟨rfl, .ret, hIxp _ _ _ _ (by omega) (by omega) hl3 hi3, hl4, hk4⟩⟩
      | exit id =>
        obtain ⟨hk3, hi3⟩ := hp
        obtain ⟨hr, hl3, hl4, hk4⟩ := fin (some (.exit id)) W3 hk3
        exact ⟨_, _, hr, .inr ⟨rfl, .exit id, hIxp _ _ _ _ (by omega) (by omega) hl3 hi3, hl4, hk4⟩⟩
      | goto t =>
        obtain ⟨hk3, hi3⟩ := hp
        obtain ⟨hr, hl3, hl4, hk4⟩ := fin (some (.goto t)) W3 hk3
        exact ⟨_, _, hr, .inr ⟨rfl, .goto t, hIxp _ _ _ _ (by omega) (by omega) hl3 hi3, hl4, hk4⟩⟩
      | panic ch => exact hp.elim
      | outgrown => exact hp.elim
    · rintro e W2 ⟨⟨v, rfl⟩, (⟨s, hF, hi, hl, hk⟩ | ⟨c, hi, hl, hk⟩)⟩
      · have hlt := (Array.getElem?_eq_some_iff.1 hl).1
        exact ⟨none, _, by have := run_endLoop (P := P) hl (by rw [hrec]; simp); rw [hrec] at this; exact this, hdone s _ hF (hIp _ _ _ _ (by omega) (by omega) hlt hi) ((World.putObj_heap_other (by omega)).trans hk)⟩
      · have hlt := (Array.getElem?_eq_some_iff.1 hl).1
        exact ⟨some c, _, by have := run_endLoop (P := P) hl (by rw [hrec]; simp); rw [hrec] at this; exact this, hstop c _ (hIxp c _ _ _ (by omega) (by omega) hlt hi) ((World.putObj_heap_other (by omega)).trans hk)⟩
section
variable {F : Fence} {n : Nat} {P : Program} {ops : Array Oper} {Q : Exit → Act → World → Prop} {rest : List Oper} {o : Oper} {a : Act} {w w' : World}
theorem wpListIn_look (hg : o.guard = none) {t : TypeId} {m x : Operand} {ok : Bool} {u v r : Value} (ho : o.op = .lookup t m x ok) (hm : a.eval m = u) (hx : a.eval x = v) (hr : (Instr.lookup t u v ok).run P w = .ok r w') (h : wpListIn F n P ops Q rest (a.put o.dst r) w') : wpListIn F n P ops Q (o :: rest) a w := by
  refine wpListIn_plain hg fun K' hK' => ?_
  unfold Oper.wpIn
  refine ⟨by simp [Oper.about, ho], ?_⟩
  rw [Oper.semAt_plain F _ _ (by rw [ho]; intro c hc; cases hc)]
  simp [execOp, ho, hm, hx, hr, Result.andThen]
  exact hK' _ _ h
theorem wpListIn_upd (hg : o.guard = none) {t : TypeId} {m x y : Operand} {u v z : Value} (ho : o.op = .mapUpdate t m x y) (hm : a.eval m = u) (hx : a.eval x = v) (hy : a.eval y = z) (hr : (Instr.mapUpdate t u v z).run P w = .ok () w') (h : wpListIn F n P ops Q rest (a.put o.dst undef) w') : wpListIn F n P ops Q (o :: rest) a w := by
  refine wpListIn_plain hg fun K' hK' => ?_
  unfold Oper.wpIn
  refine ⟨by simp [Oper.about, ho], ?_⟩
  rw [Oper.semAt_plain F _ _ (by rw [ho]; intro c hc; cases hc)]
  simp [execOp, ho, hm, hx, hy, hr, Result.andThen]
  exact hK' _ _ h
end
end Go.Proofs.Ytbkbfkaklhojgaa
