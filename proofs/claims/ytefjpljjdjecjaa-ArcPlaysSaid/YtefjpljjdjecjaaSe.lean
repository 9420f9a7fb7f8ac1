/- A region that draws its order, taken in parts: where every later operation waits for all of a part, the part is done first, in whatever order; inside a part the operations may read, call and make memory, and the text's order serves every order. -/
import Derived.Test.YtefjpljjdjecjaaBa
namespace Go.Proofs.Ytefjpljjdjecjaa
open Go.RowKit

/-- What an operation may leave: which values, and what holds of the value. -/
structure Ent where
  may : Value → Prop
  G : Value → World → Prop
def Ent.eff (e : Ent) (b : Bool) : Ent := match b with | true => e | false => ⟨fun u => u = undef, fun _ _ => True⟩

def Facts := Nat × (World → Prop) → Prop
def Facts.none : Facts := fun _ => False
def Facts.add (F : Facts) (k : Nat) (p : World → Prop) : Facts := fun f => f = (k, p) ∨ F f
theorem Facts.add_comm (F : Facts) (i j : Nat) (p q : World → Prop) : (F.add i p).add j q = (F.add j q).add i p := by
  funext f
  exact propext ⟨fun h => h.elim (fun h => .inr (.inl h)) (fun h => h.elim (fun h => .inl h) fun h => .inr (.inr h)), fun h => h.elim (fun h => .inr (.inl h)) (fun h => h.elim (fun h => .inl h) fun h => .inr (.inr h))⟩

section
variable {P : Program} {ops : Array Oper} {md : Region.Mode}

def ClosedSet (md : Region.Mode) (ops : Array Oper) (S : Nat → Prop) : Prop := ∀ k ok, ops[k]? = some ok → S k → ∀ e ∈ ok.after, Region.binds md e = true → S e.on
/-- Operation j waits for operation i, through others or straight. -/
def Anc (md : Region.Mode) (ops : Array Oper) (j i : Nat) : Prop := ∀ S : Nat → Prop, ClosedSet md ops S → (∀ oj, ops[j]? = some oj → ∀ e ∈ oj.after, Region.binds md e = true → S e.on) → S i
theorem Anc.via {j k i : Nat} (h1 : Anc md ops j k) (h2 : Anc md ops k i) : Anc md ops j i := fun S hS hj =>
  h2 S hS fun ok hok => hS k ok hok (h1 S hS hj)
theorem Anc.edge {j i : Nat} {oj : Oper} {e : Edge} (ho : ops[j]? = some oj) (he : e ∈ oj.after) (hb : Region.binds md e = true) (hi : e.on = i) : Anc md ops j i := fun _ _ hj => hi ▸ hj oj ho e he hb
/-- The sets of all that an operation waits for, as bits. -/
def maskOf (md : Region.Mode) (ms : List Nat) : List Edge → Nat
  | [] => 0
  | e :: l => if Region.binds md e then maskOf md ms l ||| (1 <<< e.on) ||| (ms.getD e.on 0) else maskOf md ms l
def masks (md : Region.Mode) : List Oper → List Nat → List Nat
  | [], ms => ms
  | o :: l, ms => masks md l (ms ++ [maskOf md ms o.after.toList])
theorem maskOf_anc {j : Nat} {oj : Oper} (ho : ops[j]? = some oj) (ms : List Nat) (hms : ∀ k m i, ms[k]? = some m → m.testBit i = true → Anc md ops k i) : ∀ (l : List Edge), (∀ e ∈ l, e ∈ oj.after) → ∀ i, (maskOf md ms l).testBit i = true → Anc md ops j i
  | [], _, i, h => by simp [maskOf] at h
  | e :: l, hl, i, h => by
    unfold maskOf at h
    split at h
    · rename_i hb
      simp only [Nat.testBit_or, Bool.or_eq_true] at h
      rcases h with (h | h) | h
      · exact maskOf_anc ho ms hms l (fun e he => hl e (List.mem_cons_of_mem _ he)) i h
      · rw [Nat.one_shiftLeft, Nat.testBit_two_pow] at h
        exact Anc.edge ho (hl e (List.mem_cons_self ..)) hb (by simpa using h)
      · have h1 : Anc md ops j e.on := Anc.edge ho (hl e (List.mem_cons_self ..)) hb rfl
        cases hm : ms[e.on]? with
        | none => simp [List.getD_eq_getElem?_getD, hm] at h
        | some m =>
          rw [List.getD_eq_getElem?_getD, hm] at h
          exact h1.via (hms _ m i hm h)
    · exact maskOf_anc ho ms hms l (fun e he => hl e (List.mem_cons_of_mem _ he)) i h
theorem masks_anc : ∀ (l : List Oper) (ms : List Nat), (∀ j, l[j]? = ops[ms.length + j]?) → (∀ k m i, ms[k]? = some m → m.testBit i = true → Anc md ops k i) → ∀ k m i, (masks md l ms)[k]? = some m → m.testBit i = true → Anc md ops k i
  | [], ms, _, hms => hms
  | o :: l, ms, hl, hms => by
    refine masks_anc l _ (fun j => by have := hl (j + 1); simp only [List.getElem?_cons_succ] at this; rw [this, List.length_append]; congr 1; simp; omega) ?_
    intro k m i hk ht
    have ho : ops[ms.length]? = some o := by simpa using (hl 0).symm
    by_cases hlt : k < ms.length
    · rw [List.getElem?_append_left hlt] at hk; exact hms k m i hk ht
    · rw [List.getElem?_append_right (by omega)] at hk
      have hk0 : k = ms.length := by
        rcases Nat.lt_or_ge (k - ms.length) 1 with h | h
        · omega
        · rw [List.getElem?_eq_none (by simpa using h)] at hk; cases hk
      subst hk0
      simp at hk
      subst hk
      exact maskOf_anc ho ms hms _ (fun e he => by simpa using he) i ht
def ancB (md : Region.Mode) (ops : List Oper) (j i : Nat) : Bool := ((masks md ops []).getD j 0).testBit i
theorem anc_of {l : List Oper} {j i : Nat} (h : ancB md l j i = true) : Anc md l.toArray j i := by
  unfold ancB at h
  cases hm : (masks md l [])[j]? with
  | none => simp [List.getD_eq_getElem?_getD, hm] at h
  | some m =>
    rw [List.getD_eq_getElem?_getD, hm] at h
    exact masks_anc (ops := l.toArray) l [] (by simp) (by simp) j m i hm h
/-- All from k on wait for all from p to k. -/
def BarOk (md : Region.Mode) (ops : Array Oper) (p k : Nat) : Prop := ∀ j i, k ≤ j → j < ops.size → p ≤ i → i < k → Anc md ops j i
def barB (md : Region.Mode) (l : List Oper) (p k : Nat) : Bool := ((masks md l []).drop k).all fun m => ((m >>> p) % 2 ^ (k - p)) == 2 ^ (k - p) - 1
theorem masks_len : ∀ (l : List Oper) (ms : List Nat), (masks md l ms).length = ms.length + l.length
  | [], ms => by simp [masks]
  | o :: l, ms => by rw [masks, masks_len l]; simp; omega
theorem bar_of {l : List Oper} {p k : Nat} (h : barB md l p k = true) : BarOk md l.toArray p k := by
  intro j i hj hjn hp hi
  unfold barB at h
  have hl : (masks md l []).length = l.length := by rw [masks_len]; simp
  have hjn' : j < (masks md l []).length := by rw [hl]; simpa using hjn
  have := List.all_eq_true.1 h ((masks md l [])[j]) (by
    rw [List.mem_iff_getElem]
    exact ⟨j - k, by simp; omega, by simp only [List.getElem_drop]; congr 1; omega⟩)
  simp only [beq_iff_eq] at this
  refine masks_anc (ops := l.toArray) l [] (by simp) (by simp) j _ i (List.getElem?_eq_getElem hjn') ?_
  have h2 : (((masks md l [])[j] >>> p) % 2 ^ (k - p)).testBit (i - p) = true := by
    rw [this, Nat.testBit_two_pow_sub_one]; simp; omega
  rw [Nat.testBit_mod_two_pow, Nat.testBit_shiftRight] at h2
  simp only [Bool.and_eq_true, decide_eq_true_eq] at h2
  rw [show p + (i - p) = i by omega] at h2
  exact h2.2

def Holds (j : Nat) (md : Region.Mode) (ops : Array Oper) (F : Facts) (w : World) : Prop := ∀ f, F f → Anc md ops j f.1 → f.2 w

/-- What an operation comes to. -/
def runsUpon (P : Program) (R : Value → World → Prop) : Result Next → Prop
  | .ok (.value u) w' => R u w'
  | .ok .skip w' => R undef w'
  | .ok (.enter f args) w' => Calls P f args w' (fun e w'' => ∃ v, e = .returned v ∧ R v w'')
  | _ => False
def Runs (P : Program) (o : Oper) (a : Act) (w : World) (R : Value → World → Prop) : Prop := runsUpon P R ((execOp a.eval o).run P w)
theorem runsUpon_mono {R R' : Value → World → Prop} (h : ∀ v w, R v w → R' v w) {r : Result Next} (hh : runsUpon P R r) : runsUpon P R' r := by
  cases r with
  | ok n w' =>
    cases n <;> simp only [runsUpon] at hh ⊢
    case value u => exact h _ _ hh
    case skip => exact h _ _ hh
    case enter f args => exact hh.mono fun e w'' ⟨v, he, hr⟩ => ⟨v, he, h _ _ hr⟩
  | halt x w' => simp only [runsUpon] at hh
theorem Runs.wp {o : Oper} {a : Act} {w : World} {R : Value → World → Prop} {K : Act → World → Prop} {Q' : Exit → Act → World → Prop} (h : Runs P o a w R) (hk : ∀ v w', R v w' → K (a.put o.dst v) w') : o.wp P a w K Q' := by
  unfold Runs at h
  unfold Oper.wp
  generalize (execOp a.eval o).run P w = r at *
  cases r with
  | ok n w' =>
    cases n <;> simp only [runsUpon] at h <;> simp only [Oper.upon]
    case value u => exact hk _ _ h
    case skip => exact hk _ _ h
    case enter f args => exact h.mono fun e w'' ⟨v, he, hr⟩ => by subst he; exact hk _ _ hr
  | halt x w' => simp only [runsUpon] at h

/-- Just the first p are done. -/
def OfP (ops : Array Oper) (listed : Array Bool) (p : Nat) : Prop := listed.size = ops.size ∧ ∀ k, k < ops.size → listed.getD k false = decide (k < p)
theorem OfP.un {listed : Array Bool} {p k : Nat} (h : OfP ops listed p) (hk : k < ops.size) : listed.getD k true = decide (k < p) := by
  have := h.2 k hk
  have hk' : k < listed.size := by rw [h.1]; exact hk
  simpa [hk'] using this
theorem OfP.next {listed : Array Bool} {p : Nat} (h : OfP ops listed p) (hp : p < ops.size) : OfP ops (listed.setIfInBounds p true) (p + 1) := by
  refine ⟨by simpa using h.1, fun k hk => ?_⟩
  by_cases hkp : p = k
  · subst hkp
    have : p < listed.size := by rw [h.1]; exact hp
    simp [this]
  · rw [getD_set_ne false hkp, h.2 k hk]
    simp only [decide_eq_decide]
    omega

/-- What the look at a region tells: an operation waits for earlier ones alone; two that do not wait for each other are apart. -/
structure RegOk (md : Region.Mode) (ops : Array Oper) : Prop where
  sel : ∀ (j : Nat) (o : Oper) cs b, ops[j]? = some o → o.op ≠ .select cs b
  edge : ∀ k ok, ops[k]? = some ok → ∀ e ∈ ok.after, Region.binds md e = true → e.on < k
  apart : ∀ i oi j oj, ops[i]? = some oi → ops[j]? = some oj → i < j → (∀ e ∈ oj.after, Region.binds md e = true → e.on ≠ i) → oi.apart ops oj = true
theorem lex_spec : ∀ (m k : Nat) (listed : Array Bool), Region.lexFrom md ops m k listed = true → OfP ops listed k → k + m = ops.size → ∀ i oi, k ≤ i → ops[i]? = some oi →
    (∀ e ∈ oi.after, Region.binds md e = true → e.on < i) ∧ ∀ j oj, ops[j]? = some oj → i < j → (∀ e ∈ oj.after, Region.binds md e = true → e.on ≠ i) → oi.apart ops oj = true
  | 0, k, listed, _, _, hkm, i, oi, hki, hoi => by
    have := (Array.getElem?_eq_some_iff.1 hoi).1
    omega
  | m + 1, k, listed, h, hof, hkm, i, oi, hki, hoi => by
    simp only [Region.lexFrom, Bool.and_eq_true] at h
    obtain ⟨⟨hr, hf⟩, h'⟩ := h
    by_cases hik : k = i
    · subst hik
      have hr' : k ∈ Region.ready md ops listed := by simpa using hr
      obtain ⟨_, o, ho, hall⟩ := mem_ready.1 hr'
      rw [hoi] at ho; cases ho
      refine ⟨fun e he hb => ?_, fun j oj hoj hij hno => ?_⟩
      · have h1 := hall e he hb
        have hlt : e.on < ops.size := by
          rcases Nat.lt_or_ge e.on listed.size with h' | h'
          · rw [← hof.1]; exact h'
          · simp [Array.getElem?_eq_none h'] at h1
        rw [hof.2 e.on hlt] at h1
        simpa using h1
      · have hj := (Array.getElem?_eq_some_iff.1 hoj).1
        exact Region.free_spec hoi hf j oj hoj (by omega) (by rw [hof.un hj]; simp; omega) hno
    · exact lex_spec m (k + 1) _ h' (hof.next (by omega)) (by omega) i oi (by omega) hoi
theorem regOk_of (h : Region.lexB md ops = true) : RegOk md ops := by
  simp only [Region.lexB, Bool.and_eq_true] at h
  have h0 : OfP ops (Array.replicate ops.size false) 0 := by
    refine ⟨by simp, fun k hk => ?_⟩
    simp [hk]
  have := lex_spec ops.size 0 _ h.2 h0 (by omega)
  exact ⟨Region.noSelect_spec h.1, fun k ok hk => (this k ok (Nat.zero_le _) hk).1, fun i oi j oj hi hj hij => (this i oi (Nat.zero_le _) hi).2 j oj hj hij⟩

variable {St : World → Prop} {R : World → World → Prop} {pl : Nat → Ent} {Q : Act → World → Prop}

def Obl (P : Program) (md : Region.Mode) (ops : Array Oper) (St : World → Prop) (R : World → World → Prop) (e : Ent) (o : Oper) (j : Nat) (F : Facts) (a : Act) : Prop :=
  ∀ w, St w → Holds j md ops F w → Runs P o a w fun u w' => e.may u ∧ e.G u w' ∧ St w' ∧ R w w'
def lOp (P : Program) (md : Region.Mode) (ops : Array Oper) (St : World → Prop) (R : World → World → Prop) (pl : Nat → Ent) (j : Nat) (K : Facts → Act → Prop) (F : Facts) (a : Act) : Prop :=
  match ops[j]? with
  | none => K F a
  | some o => (Region.wanted o (yielded ops a.tmps) = true → Obl P md ops St R (pl j) o j F a) ∧
      ∀ u, ((pl j).eff (Region.wanted o (yielded ops a.tmps))).may u → K (F.add j (((pl j).eff (Region.wanted o (yielded ops a.tmps))).G u)) (a.put o.dst u)
def EndL (St : World → Prop) (Q : Act → World → Prop) (F : Facts) (a : Act) : Prop := ∀ w, St w → (∀ f, F f → f.2 w) → Q a w
def wpAnyL (P : Program) (md : Region.Mode) (ops : Array Oper) (St : World → Prop) (R : World → World → Prop) (pl : Nat → Ent) (q : Nat) (Q : Act → World → Prop) : Nat → Array Bool → Facts → Act → Prop
  | 0, listed, F, a => OfP ops listed q ∧ EndL St Q F a
  | fuel + 1, listed, F, a =>
    (∃ i, i ∈ Region.ready md ops listed) ∧
    ∀ i ∈ Region.ready md ops listed, i < q ∧ lOp P md ops St R pl i (wpAnyL P md ops St R pl q Q fuel (listed.setIfInBounds i true)) F a

def StableF (R : World → World → Prop) (p : World → Prop) : Prop := ∀ w w', R w w' → p w → p w'

/-- The region from operation p on. -/
def RegAt (P : Program) (md : Region.Mode) (ops : Array Oper) (Q' : Exit → Act → World → Prop) (p : Nat) (a : Act) (w : World) : Prop := ∀ listed, OfP ops listed p → wpAny P md ops Q' (ops.size - p) listed a w

theorem wpAny_of_L {Q' : Exit → Act → World → Prop} {q : Nat} (hst : ∀ i u, StableF R ((pl i).G u)) : ∀ (fuel : Nat) (listed : Array Bool) (F : Facts) (a : Act) (w : World), St w → (∀ f, F f → f.2 w) → (∀ f, F f → StableF R f.2) →
    wpAnyL P md ops St R pl q (fun a w => RegAt P md ops Q' q a w) fuel listed F a → wpAny P md ops Q' (fuel + (ops.size - q)) listed a w
  | 0, _, _, _, _, hs, hf, _, h => by rw [Nat.zero_add]; exact h.2 _ hs hf _ h.1
  | fuel + 1, listed, F, a, w, hs, hf, hF, h => by
    rw [show fuel + 1 + (ops.size - q) = (fuel + (ops.size - q)) + 1 by omega]
    obtain ⟨⟨i0, hi0⟩, h⟩ := h
    refine ⟨fun h0 => (by rw [h0] at hi0; cases hi0), fun i hi => ?_⟩
    have hl := (h i hi).2
    unfold lOp at hl
    unfold wpOp
    cases ho : ops[i]? with
    | none => rw [ho] at hl; exact wpAny_of_L hst fuel _ _ _ _ hs hf hF hl
    | some o =>
      rw [ho] at hl
      obtain ⟨h1, h2⟩ := hl
      simp only
      by_cases hw : Region.wanted o (yielded ops a.tmps) = true
      · rw [if_pos hw]
        refine .inl ((h1 hw w hs (fun f hff _ => hf f hff)).wp fun v w' ⟨m1, m2, m3, m4⟩ => ?_)
        rw [hw] at h2
        refine wpAny_of_L hst fuel _ _ _ _ m3 ?_ ?_ (h2 v m1)
        · rintro f (rfl | hff)
          · exact m2
          · exact hF f hff w w' m4 (hf f hff)
        · rintro f (rfl | hff)
          · exact hst i v
          · exact hF f hff
      · rw [if_neg hw]
        have hw' : Region.wanted o (yielded ops a.tmps) = false := by simpa using hw
        rw [hw'] at h2
        refine wpAny_of_L hst fuel _ _ _ _ hs ?_ ?_ (h2 undef rfl)
        · rintro f (rfl | hff)
          · exact trivial
          · exact hf f hff
        · rintro f (rfl | hff)
          · exact fun _ _ _ _ => trivial
          · exact hF f hff

theorem not_anc_of_ready {listed : Array Bool} (hc : ClosedSet md ops fun k => listed.getD k false = true) {i j : Nat} (hi : listed.getD i true = false) (hj : j ∈ Region.ready md ops listed) : ¬ Anc md ops j i := by
  intro h
  obtain ⟨_, oj, hoj, hall⟩ := mem_ready.1 hj
  have := h (fun k => listed.getD k false = true) hc (fun o ho e he hb => by rw [hoj] at ho; cases ho; exact hall e he hb)
  rcases Nat.lt_or_ge i listed.size with h' | h'
  · simp [h'] at hi this; rw [hi] at this; cases this
  · simp [Array.getElem?_eq_none h'] at this
theorem closed_set {listed : Array Bool} (hc : ClosedSet md ops fun k => listed.getD k false = true) {i : Nat} (hi : i ∈ Region.ready md ops listed) : ClosedSet md ops fun k => (listed.setIfInBounds i true).getD k false = true := by
  intro k ok hk hl e he hb
  obtain ⟨_, oi, hoi, hall⟩ := mem_ready.1 hi
  by_cases hki : i = k
  · subst hki
    rw [hoi] at hk; cases hk
    exact getD_set_true (hall e he hb)
  · rw [getD_set_ne false hki] at hl
    exact getD_set_true (hc k ok hk hl e he hb)
theorem Obl.of_same {e : Ent} {o : Oper} {j : Nat} {F F' : Facts} {a a' : Act} (h : Obl P md ops St R e o j F a) (he : execOp a'.eval o = execOp a.eval o) (hF : ∀ w, Holds j md ops F' w → Holds j md ops F w) : Obl P md ops St R e o j F' a' := by
  intro w hst hf
  have := h w hst (hF w hf)
  unfold Runs at *
  rw [he]
  exact this

/-- An operation that may come up now may be taken first. -/
theorem wpAnyL_first {i q : Nat} {oi : Oper} (hi : ops[i]? = some oi) (hiq : i < q) (hok : RegOk md ops) (hne : ∀ i, ∃ u, (pl i).may u) (hbar : ∀ j, q ≤ j → j < ops.size → Anc md ops j i) :
    ∀ (fuel : Nat) (listed : Array Bool) (F : Facts) (a : Act), (ClosedSet md ops fun k => listed.getD k false = true) →
      (∀ j oj, ops[j]? = some oj → j ≠ i → listed.getD j true = false → (∀ e ∈ oj.after, Region.binds md e = true → e.on ≠ i) → oi.apart ops oj = true) →
      i ∈ Region.ready md ops listed →
      lOp P md ops St R pl i (wpAnyL P md ops St R pl q Q fuel (listed.setIfInBounds i true)) F a → wpAnyL P md ops St R pl q Q (fuel + 1) listed F a := by
  intro fuel
  induction fuel with
  | zero =>
    intro listed F a hcl _ hr H
    refine ⟨⟨i, hr⟩, fun j hj => ?_⟩
    by_cases hji : j = i
    · subst hji; exact ⟨hiq, H⟩
    · exfalso
      obtain ⟨hjun, oj, hoj, _⟩ := mem_ready.1 hj
      have hjn := (Array.getElem?_eq_some_iff.1 hoj).1
      have hjq : j < q := by
        rcases Nat.lt_or_ge j q with h | h
        · exact h
        · exact absurd (hbar j h hjn) (not_anc_of_ready hcl (mem_ready.1 hr).1 hj)
      unfold lOp at H
      simp only [hi] at H
      have : ∃ u, ((pl i).eff (Region.wanted oi (yielded ops a.tmps))).may u := by
        cases Region.wanted oi (yielded ops a.tmps)
        · exact ⟨undef, rfl⟩
        · exact hne i
      obtain ⟨u, hu⟩ := this
      have h1 := (H.2 u hu).1.un hjn
      rw [getD_set_ne true (Ne.symm hji), hjun] at h1
      simp at h1
      omega
  | succ fuel ih =>
    intro listed F a hcl hfree hr H
    refine ⟨⟨i, hr⟩, fun j hj => ?_⟩
    by_cases hji : j = i
    · subst hji; exact ⟨hiq, H⟩
    obtain ⟨hjun, oj, hoj, hall⟩ := mem_ready.1 hj
    have hiun := (mem_ready.1 hr).1
    have nji : ¬ Anc md ops j i := not_anc_of_ready hcl hiun hj
    have nij : ¬ Anc md ops i j := not_anc_of_ready hcl hjun hr
    have hjn := (Array.getElem?_eq_some_iff.1 hoj).1
    have hjq : j < q := by
      rcases Nat.lt_or_ge j q with h | h
      · exact h
      · exact absurd (hbar j h hjn) nji
    refine ⟨hjq, ?_⟩
    have hnot : ∀ e ∈ oj.after, Region.binds md e = true → e.on ≠ i := fun e he hb heq => by
      have h1 := hall e he hb
      rw [heq] at h1
      rcases Nat.lt_or_ge i listed.size with h' | h'
      · simp [h'] at hiun h1; rw [hiun] at h1; cases h1
      · simp [Array.getElem?_eq_none h'] at h1
    have hap := hfree j oj hoj hji hjun hnot
    obtain ⟨p1, p2, p3⟩ := Oper.apart_spec hap
    have hsi := fun cs b => hok.sel i oi cs b hi
    have hsj := fun cs b => hok.sel j oj cs b hoj
    unfold lOp at H
    simp only [hi] at H
    obtain ⟨H1, H2⟩ := H
    generalize hbi : Region.wanted oi (yielded ops a.tmps) = bi at *
    generalize hbj : Region.wanted oj (yielded ops a.tmps) = bj at *
    have hmay : ∃ u, ((pl i).eff bi).may u := by
      cases bi
      · exact ⟨undef, rfl⟩
      · exact hne i
    have J : ∀ u, ((pl i).eff bi).may u → (bj = true → Obl P md ops St R (pl j) oj j (F.add i (((pl i).eff bi).G u)) (a.put oi.dst u)) ∧
        ∀ x, ((pl j).eff bj).may x → wpAnyL P md ops St R pl q Q fuel ((listed.setIfInBounds i true).setIfInBounds j true) ((F.add i (((pl i).eff bi).G u)).add j (((pl j).eff bj).G x)) ((a.put oi.dst u).put oj.dst x) := by
      intro u hu
      have := ((H2 u hu).2 j (ready_mono hj hji)).2
      unfold lOp at this
      simp only [hoj] at this
      rw [wanted_put oj a oi.dst u p1, hbj] at this
      exact this
    unfold lOp
    simp only [hoj]
    rw [hbj]
    refine ⟨fun hb => ?_, fun x hx => ?_⟩
    · obtain ⟨u, hu⟩ := hmay
      refine ((J u hu).1 hb).of_same (execOp_put oj hsj a oi.dst u p1).symm ?_
      intro w hf f hff ha
      rcases hff with rfl | hff
      · exact absurd ha nji
      · exact hf f hff ha
    · have hfree' : ∀ k ok, ops[k]? = some ok → k ≠ i → (listed.setIfInBounds j true).getD k true = false →
          (∀ e ∈ ok.after, Region.binds md e = true → e.on ≠ i) → oi.apart ops ok = true := fun k ok hk hki hun hno => by
        refine hfree k ok hk hki ?_ hno
        by_cases hjk : j = k
        · subst hjk; exact hjun
        · rw [getD_set_ne true hjk] at hun; exact hun
      refine ih (listed.setIfInBounds j true) _ _ (closed_set hcl hj) hfree' (ready_mono hr (Ne.symm hji)) ?_
      unfold lOp
      simp only [hi]
      rw [wanted_put oi a oj.dst x p3, hbi]
      refine ⟨fun hb => ?_, fun u hu => ?_⟩
      · refine (H1 hb).of_same (execOp_put oi hsi a oj.dst x p3) ?_
        intro w hf f hff ha
        exact hf f (.inr hff) ha
      · have := (J u hu).2 x hx
        rw [Array.setIfInBounds_comm _ _ hji, Facts.add_comm, ← Act.put_comm a u x p2]
        exact this

theorem ofP_closed (hok : RegOk md ops) {listed : Array Bool} {p : Nat} (h : OfP ops listed p) : ClosedSet md ops fun k => listed.getD k false = true := by
  intro k ok hk hl e he hb
  have hkn := (Array.getElem?_eq_some_iff.1 hk).1
  have h1 := hok.edge k ok hk e he hb
  have hl' : listed.getD k false = true := hl
  rw [h.2 k hkn] at hl'
  simp at hl'
  show listed.getD e.on false = true
  rw [h.2 e.on (by omega)]
  simp; omega
theorem ofP_ready (hok : RegOk md ops) {listed : Array Bool} {p : Nat} (h : OfP ops listed p) (hp : p < ops.size) : p ∈ Region.ready md ops listed := by
  rw [mem_ready]
  refine ⟨by rw [h.un hp]; simp, ops[p], Array.getElem?_eq_getElem hp, fun e he hb => ?_⟩
  have h1 := hok.edge p _ (Array.getElem?_eq_getElem hp) e he hb
  rw [h.2 e.on (by omega)]
  simpa using h1
theorem ofP_free (hok : RegOk md ops) {listed : Array Bool} {p : Nat} {op : Oper} (h : OfP ops listed p) (hp : ops[p]? = some op) : ∀ j oj, ops[j]? = some oj → j ≠ p → listed.getD j true = false → (∀ e ∈ oj.after, Region.binds md e = true → e.on ≠ p) → op.apart ops oj = true := by
  intro j oj hj hjp hun hno
  have hjn := (Array.getElem?_eq_some_iff.1 hj).1
  rw [h.un hjn] at hun
  simp at hun
  exact hok.apart p op j oj hp hj (by omega) hno

/-- The walk in the text's order over a part: as many operations as there are entries. -/
def wpL (P : Program) (md : Region.Mode) (ops : Array Oper) (St : World → Prop) (R : World → World → Prop) (p : Nat) (Q : List Oper → Nat → Act → World → Prop) : List Oper → List Ent → Nat → Facts → Act → Prop
  | l, [], k, F, a => BarOk md ops p k ∧ EndL St (Q l k) F a
  | [], _ :: _, _, _, _ => False
  | o :: rest, e :: es, k, F, a => (Region.wanted o (yielded ops a.tmps) = true → Obl P md ops St R e o k F a) ∧
      ∀ u, (e.eff (Region.wanted o (yielded ops a.tmps))).may u → wpL P md ops St R p Q rest es (k + 1) (F.add k ((e.eff (Region.wanted o (yielded ops a.tmps))).G u)) (a.put o.dst u)

def RegL (P : Program) (ops : Array Oper) (Q' : Exit → Act → World → Prop) (l : List Oper) (p : Nat) (a : Act) (w : World) : Prop := RegOk .any ops → ops.toList.drop p = l → RegAt P .any ops Q' p a w

theorem wpL_bar {Q : List Oper → Nat → Act → World → Prop} {p : Nat} (hne : ∀ i, ∃ u, (pl i).may u) : ∀ (l : List Oper) (es : List Ent) (k : Nat) (F : Facts) (a : Act), (∀ j e, es[j]? = some e → pl (k + j) = e) → wpL P md ops St R p Q l es k F a → BarOk md ops p (k + es.length)
  | [], [], _, _, _, _, h => by have := h.1; simpa using this
  | _ :: _, [], _, _, _, _, h => by have := h.1; simpa using this
  | [], _ :: _, _, _, _, _, h => h.elim
  | o :: rest, e :: es, k, F, a, hp, h => by
    have : ∃ u, (e.eff (Region.wanted o (yielded ops a.tmps))).may u := by
      cases Region.wanted o (yielded ops a.tmps)
      · exact ⟨undef, rfl⟩
      · have := hne k
        rwa [show pl k = e from hp 0 e rfl] at this
    obtain ⟨u, hu⟩ := this
    have := wpL_bar hne rest es (k + 1) _ _ (fun j e he => by have := hp (j + 1) e he; rw [← this]; congr 1; omega) (h.2 u hu)
    rw [List.length_cons, show k + (es.length + 1) = k + 1 + es.length by omega]
    exact this

theorem wpL_len {Q : List Oper → Nat → Act → World → Prop} {p : Nat} : ∀ (l : List Oper) (es : List Ent) (k : Nat) (F : Facts) (a : Act), (∀ e ∈ es, ∃ u, e.may u) → wpL P md ops St R p Q l es k F a → es.length ≤ l.length
  | _, [], _, _, _, _, _ => by simp
  | [], _ :: _, _, _, _, _, h => h.elim
  | o :: rest, e :: es, k, F, a, hp, h => by
    have : ∃ u, (e.eff (Region.wanted o (yielded ops a.tmps))).may u := by
      cases Region.wanted o (yielded ops a.tmps)
      · exact ⟨undef, rfl⟩
      · exact hp e (List.mem_cons_self ..)
    obtain ⟨u, hu⟩ := this
    have := wpL_len rest es (k + 1) _ _ (fun e he => hp e (List.mem_cons_of_mem _ he)) (h.2 u hu)
    simp; omega

theorem wpAnyL_lex {Q' : Exit → Act → World → Prop} {p q : Nat} (hok : RegOk .any ops) (hne : ∀ i, ∃ u, (pl i).may u) (hbar : BarOk .any ops p q) : ∀ (l : List Oper) (es : List Ent) (k : Nat) (listed : Array Bool) (F : Facts) (a : Act), p ≤ k → k + es.length = q → ops.toList.drop k = l → (∀ j e, es[j]? = some e → pl (k + j) = e) →
    OfP ops listed k → wpL P .any ops St R p (RegL P ops Q') l es k F a → wpAnyL P .any ops St R pl q (fun a w => RegAt P .any ops Q' q a w) es.length listed F a
  | l, [], k, listed, F, a, _, hkq, hl, _, hof, h => by
    have hk : k = q := by simpa using hkq
    subst hk
    refine ⟨hof, fun w hs hf => ?_⟩
    have h2 : EndL St (RegL P ops Q' l k) F a := by cases l <;> exact h.2
    exact h2 w hs hf hok hl
  | [], _ :: _, _, _, _, _, _, _, _, _, _, h => h.elim
  | o :: l, e :: es, k, listed, F, a, hpk, hkq, hl, hp, hof, h => by
    have hkn : k < ops.size := by
      rcases Nat.lt_or_ge k ops.size with h' | h'
      · exact h'
      · rw [List.drop_eq_nil_of_le (by simpa using h')] at hl; cases hl
    have h0 : ops[k]? = some o := by
      have : (ops.toList.drop k)[0]? = some o := by rw [hl]; rfl
      simpa using this
    have hpk' : pl k = e := hp 0 e rfl
    have hkq' : k < q := by simp at hkq; omega
    refine wpAnyL_first h0 hkq' hok hne (fun j hj hjn => hbar j k hj hjn hpk hkq') es.length listed F a (ofP_closed hok hof) (ofP_free hok hof h0) (ofP_ready hok hof hkn) ?_
    unfold lOp
    simp only [h0]
    rw [hpk']
    refine ⟨h.1, fun u hu => ?_⟩
    refine wpAnyL_lex hok hne hbar l es (k + 1) _ _ _ (by omega) (by simp at hkq; omega) ?_ (fun j e he => by have := hp (j + 1) e he; rw [← this]; congr 1; omega) (hof.next hkn) (h.2 u hu)
    rw [← List.tail_drop, hl]; rfl
def planAt (p : Nat) (es : List Ent) (k : Nat) : Ent := (es[k - p]?).getD ⟨fun u => u = undef, fun _ _ => True⟩
/-- A PART OF THE REGION. -/
theorem regL_part {Q' : Exit → Act → World → Prop} {a : Act} {w : World} {l : List Oper} {p : Nat} (es : List Ent) (hne : ∀ e ∈ es, ∃ u, e.may u) (hst : ∀ e ∈ es, ∀ u, StableF R (e.G u)) (hs : St w)
    (h : wpL P .any ops St R p (RegL P ops Q') l es p Facts.none a) : RegL P ops Q' l p a w := by
  intro hok hl listed hof
  have hpl : ∀ i, planAt p es i ∈ es ∨ planAt p es i = ⟨fun u => u = undef, fun _ _ => True⟩ := by
    intro i
    unfold planAt
    cases hi : es[i - p]? with
    | none => exact .inr rfl
    | some e => exact .inl (List.mem_of_getElem? hi)
  have hne' : ∀ i, ∃ u, (planAt p es i).may u := fun i => (hpl i).elim (fun h => hne _ h) (fun h => by rw [h]; exact ⟨undef, rfl⟩)
  have hst' : ∀ i u, StableF R ((planAt p es i).G u) := fun i u => (hpl i).elim (fun h => hst _ h u) (fun h => by rw [h]; exact fun _ _ _ _ => trivial)
  have hpe : ∀ j e, es[j]? = some e → planAt p es (p + j) = e := fun j e he => by
    simp [planAt, he]
  have hbar := wpL_bar hne' l es p Facts.none a hpe h
  have hlen := wpL_len l es p Facts.none a hne h
  have h2 := wpAnyL_lex (pl := planAt p es) hok hne' hbar l es p listed Facts.none a (Nat.le_refl _) rfl hl hpe hof h
  have h3 := wpAny_of_L hst' es.length listed Facts.none a w hs (fun _ h => h.elim) (fun _ h => h.elim) h2
  have hln : l.length = ops.size - p := by rw [← hl]; simp
  rw [show es.length + (ops.size - (p + es.length)) = ops.size - p by omega] at h3
  exact h3

theorem wp_region_parts {id : Nat} {Q' : Exit → Act → World → Prop} {a : Act} {w : World} {l : List Oper} (hm : P.follows .mixedOrders = true) (hB : Region.lexB .any l.toArray = true)
    (h : RegL P l.toArray Q' l 0 a w.drew) : (Code.region id l.toArray true).wp P Q' a w := by
  refine wp_region_any hm ?_
  have := h (regOk_of hB) (by simp) (Array.replicate l.toArray.size false) ⟨by simp, fun k hk => by
    have hk' : k < l.length := by simpa using hk
    simp [hk']⟩
  simpa using this
theorem regL_nil {Q' : Exit → Act → World → Prop} {a : Act} {w : World} {p : Nat} (h : Q' .normal a w) : RegL P ops Q' [] p a w := by
  intro _ hl listed hof
  have hp : ops.size ≤ p := by
    have := congrArg List.length hl
    simp at this
    omega
  rw [show ops.size - p = 0 by omega]
  refine ⟨?_, h⟩
  rw [List.eq_nil_iff_forall_not_mem]
  intro i hi
  obtain ⟨h1, o, ho, _⟩ := mem_ready.1 hi
  have hin := (Array.getElem?_eq_some_iff.1 ho).1
  rw [hof.un hin] at h1
  simp at h1
  omega
/-- An operation for which all later ones wait. -/
theorem regL_one {Q' : Exit → Act → World → Prop} {a : Act} {w : World} {p : Nat} {o : Oper} {rest : List Oper} (hb : BarOk .any ops p (p + 1)) (hw : Region.wanted o (yielded ops a.tmps) = true)
    (h : o.wp P a w (fun a' w' => RegL P ops Q' rest (p + 1) a' w') Q') : RegL P ops Q' (o :: rest) p a w := by
  intro hok hl listed hof
  have hpn : p < ops.size := by
    rcases Nat.lt_or_ge p ops.size with h' | h'
    · exact h'
    · rw [List.drop_eq_nil_of_le (by simpa using h')] at hl; cases hl
  have h0 : ops[p]? = some o := by
    have : (ops.toList.drop p)[0]? = some o := by rw [hl]; rfl
    simpa using this
  have hl' : ops.toList.drop (p + 1) = rest := by rw [← List.tail_drop, hl]; rfl
  have hr := ofP_ready hok hof hpn
  rw [show ops.size - p = (ops.size - (p + 1)) + 1 by omega]
  refine ⟨fun h0 => (by rw [h0] at hr; cases hr), fun i hi => ?_⟩
  obtain ⟨h1, oi, hoi, _⟩ := mem_ready.1 hi
  have hin := (Array.getElem?_eq_some_iff.1 hoi).1
  rw [hof.un hin] at h1
  simp at h1
  have hip : i = p := by
    rcases Nat.lt_or_ge p i with h' | h'
    · exact absurd (hb i p (by omega) hin (Nat.le_refl _) (by omega)) (not_anc_of_ready (ofP_closed hok hof) (by rw [hof.un hpn]; simp) hi)
    · omega
  subst hip
  unfold wpOp
  simp only [h0]
  rw [if_pos hw]
  exact .inl (Oper.wp_mono (fun a' w' hh => hh hok hl' _ (hof.next hpn)) h)
end
/-! ### A part whose operations leave all that was there -/
structure Bd (B : Nat) (w : World) (D : World → Prop) where
  val : World
  ok : Below B w val
  d : D val
def Later (D : World → Prop) : Prop := ∀ w w', Below w.heap.size w w' → D w → D w'
section
variable {P : Program} {B : Nat} {w : World} {D : World → Prop} {Q : List Oper → Nat → Act → World → Prop} {ops : Array Oper} {p : Nat}
def Bd.next (hB : B ≤ w.heap.size) (hD : Later D) (x : Bd B w D) {w' : World} (h : Below x.val.heap.size x.val w') : Bd B w D :=
  ⟨w', x.ok.trans (h.mono (Nat.le_trans hB x.ok.size)), hD _ _ h x.d⟩
theorem Calls.bd {f : FuncId} {args : Array Value} {v : Value} (hB : B ≤ w.heap.size) (hD : Later D) (x : Bd B w D)
    (h : Calls P f args x.val fun e w' => e = .returned v ∧ Below x.val.heap.size x.val w') : Calls P f args x.val fun e w'' => e = .returned v ∧ ∃ y : Bd B w D, w'' = y.val :=
  h.mono fun _ _ ⟨he, hb⟩ => ⟨he, x.next hB hD hb, rfl⟩
theorem Calls.bds {f : FuncId} {args : Array Value} {v : Value} (x : Bd B w D)
    (h : Calls P f args x.val fun e w' => e = .returned v ∧ x.val = w') : Calls P f args x.val fun e w'' => e = .returned v ∧ ∃ y : Bd B w D, w'' = y.val :=
  h.mono fun _ _ ⟨he, hb⟩ => ⟨he, x, hb.symm⟩
def EntOk (e : Ent) : Prop := (∃ u, e.may u) ∧ ∀ u, StableF (fun u u' => Below u.heap.size u u') (e.G u)
def wpLQ (P : Program) (ops : Array Oper) (B : Nat) (w : World) (D : World → Prop) (p : Nat) (Q : List Oper → Nat → Act → World → Prop) : List Oper → List Ent → Nat → Facts → Act → Prop
  | l, [], k, F, a => BarOk .any ops p k ∧ ∀ w', Below B w w' → (∀ f, F f → f.2 w') → Q l k a w'
  | [], _ :: _, _, _, _ => False
  | o :: rest, e :: es, k, F, a => EntOk e ∧ (Region.wanted o (yielded ops a.tmps) = true → ∀ x : Bd B w D, Holds k .any ops F x.val → Runs P o a x.val fun u w' => e.may u ∧ e.G u w' ∧ ∃ y : Bd B w D, w' = y.val) ∧
      ∀ u, (e.eff (Region.wanted o (yielded ops a.tmps))).may u → wpLQ P ops B w D p Q rest es (k + 1) (F.add k ((e.eff (Region.wanted o (yielded ops a.tmps))).G u)) (a.put o.dst u)

theorem wpLQ_mono : ∀ (l : List Oper) (es : List Ent) (k : Nat) (F F' : Facts) (a : Act), (∀ f, F f → F' f) → wpLQ P ops B w D p Q l es k F a → wpLQ P ops B w D p Q l es k F' a
  | [], [], _, _, _, _, hF, h => ⟨h.1, fun w hs hf => h.2 w hs fun f hff => hf f (hF f hff)⟩
  | _ :: _, [], _, _, _, _, hF, h => ⟨h.1, fun w hs hf => h.2 w hs fun f hff => hf f (hF f hff)⟩
  | [], _ :: _, _, _, _, _, _, h => h
  | o :: rest, e :: es, k, F, F', a, hF, h => by
    refine ⟨h.1, fun hw x hf => h.2.1 hw x fun f hff => hf f (hF f hff), fun u hu => wpLQ_mono rest es (k + 1) _ _ _ ?_ (h.2.2 u hu)⟩
    rintro f (rfl | hff)
    · exact .inl rfl
    · exact .inr (hF f hff)
theorem wpLQ_ok : ∀ (l : List Oper) (es : List Ent) (k : Nat) (F : Facts) (a : Act), wpLQ P ops B w D p Q l es k F a → ∀ e ∈ es, EntOk e
  | _, [], _, _, _, _ => by intro e he; cases he
  | [], _ :: _, _, _, _, h => h.elim
  | o :: rest, e :: es, k, F, a, h => by
    intro e' he
    rcases List.mem_cons.1 he with rfl | he
    · exact h.1
    · have : ∃ u, (e.eff (Region.wanted o (yielded ops a.tmps))).may u := by
        cases Region.wanted o (yielded ops a.tmps)
        · exact ⟨undef, rfl⟩
        · exact h.1.1
      obtain ⟨u, hu⟩ := this
      exact wpLQ_ok rest es _ _ _ (h.2.2 u hu) e' he
theorem wpL_of_LQ : ∀ (l : List Oper) (es : List Ent) (k : Nat) (F : Facts) (a : Act), (∀ D, Later D → Nonempty (Bd B w D) → wpLQ P ops B w D p Q l es k F a) → wpL P .any ops (fun w' => Below B w w') (fun u u' => Below u.heap.size u u') p Q l es k F a
  | [], [], _, _, _, h => h (fun _ => True) (fun _ _ _ _ => trivial) ⟨⟨w, Below.refl _ _, trivial⟩⟩
  | _ :: _, [], _, _, _, h => h (fun _ => True) (fun _ _ _ _ => trivial) ⟨⟨w, Below.refl _ _, trivial⟩⟩
  | [], _ :: _, _, _, _, h => h (fun _ => True) (fun _ _ _ _ => trivial) ⟨⟨w, Below.refl _ _, trivial⟩⟩
  | o :: rest, e :: es, k, F, a, h => by
    refine ⟨fun hw wc hst hf => ?_, fun u hu => ?_⟩
    · have := (h (fun w' => Below wc.heap.size wc w') (fun _ _ h1 h2 => bt h2 h1) ⟨⟨wc, hst, Below.refl _ _⟩⟩).2.1 hw ⟨wc, hst, Below.refl _ _⟩ hf
      unfold Runs at *
      refine runsUpon_mono ?_ this
      rintro v w' ⟨m1, m2, y, rfl⟩
      exact ⟨m1, m2, y.ok, y.d⟩
    · exact wpL_of_LQ rest es (k + 1) _ _ fun D hD hn => (h D hD hn).2.2 u hu

theorem entOk_pin (v : Value) : EntOk ⟨fun u => u = v, fun _ _ => True⟩ := ⟨⟨v, rfl⟩, fun _ _ _ _ _ => trivial⟩
/-- Passed over. -/
theorem wpLQ_skip {o : Oper} {rest : List Oper} {es : List Ent} {k : Nat} {F : Facts} {a : Act} (hw : Region.wanted o (yielded ops a.tmps) = false) (h : wpLQ P ops B w D p Q rest es (k + 1) F (a.put o.dst undef)) : wpLQ P ops B w D p Q (o :: rest) (⟨fun u => u = undef, fun _ _ => True⟩ :: es) k F a := by
  refine ⟨entOk_pin _, fun h2 => (by rw [hw] at h2; cases h2), fun u hu => ?_⟩
  rw [hw] at hu ⊢
  cases hu
  exact wpLQ_mono _ _ _ _ _ _ (fun f hf => .inr hf) h
def dstIn (o : Oper) (a : Act) : Bool := match o.dst with | some d => Nat.blt d a.tmps.size | none => false
theorem put_inj {o : Oper} {a : Act} {u v : Value} (hd : dstIn o a = true) (h : a.put o.dst u = a.put o.dst v) : u = v := by
  unfold dstIn at hd
  cases ho : o.dst with
  | none => rw [ho] at hd; cases hd
  | some d =>
    rw [ho] at hd h
    have hlt : d < a.tmps.size := by simpa [Nat.blt_eq] using hd
    have h1 : (a.put (some d) u).tmps[d]? = (a.put (some d) v).tmps[d]? := by rw [h]
    simpa [Act.put, hlt] using h1
/-- One value, in every world of the class: by the quiet walk's own step. -/
theorem wpLQ_pin {o : Oper} {rest : List Oper} {es : List Ent} {k : Nat} {F : Facts} {a : Act} {v : Value} (hw : Region.wanted o (yielded ops a.tmps) = true) (hd : dstIn o a = true)
    (h : ∀ K : Act → Prop, (∀ a', (a' = a.put o.dst v ∧ wpLQ P ops B w D p Q rest es (k + 1) F a') → K a') → o.quiet P a (fun w' => ∃ x : Bd B w D, w' = x.val) K) : wpLQ P ops B w D p Q (o :: rest) (⟨fun u => u = v, fun _ _ => True⟩ :: es) k F a := by
  obtain ⟨v', h1, h2, h3⟩ := h _ (fun _ h => h)
  obtain rfl := put_inj hd h2
  refine ⟨entOk_pin _, fun _ x _ => ?_, fun u hu => ?_⟩
  · have := h1 x.val ⟨x, rfl⟩
    unfold Oper.quietAt at this
    unfold Runs
    generalize (execOp a.eval o).run P x.val = r at *
    cases r with
    | ok n w' =>
      cases n <;> simp only [Oper.quietUpon] at this <;> simp only [runsUpon]
      case value u => obtain ⟨rfl, rfl⟩ := this; exact ⟨rfl, trivial, x, rfl⟩
      case skip => obtain ⟨rfl, rfl⟩ := this; exact ⟨rfl, trivial, x, rfl⟩
      case enter f args =>
        obtain ⟨rfl, hc⟩ := this
        exact hc.mono fun e w'' ⟨he, y⟩ => ⟨v', he, rfl, trivial, y⟩
    | halt x w' => simp only [Oper.quietUpon] at this
  · rw [hw] at hu ⊢
    cases hu
    exact wpLQ_mono _ _ _ _ _ _ (fun f hf => .inr hf) h3
/-- One value, by hand; what the operations that it waits for have left may be used. -/
theorem wpLQ_at {o : Oper} {rest : List Oper} {es : List Ent} {k : Nat} {F : Facts} {a : Act} (v : Value) (hB : B ≤ w.heap.size) (hD : Later D) (hw : Region.wanted o (yielded ops a.tmps) = true)
    (h : ∀ x : Bd B w D, Holds k .any ops F x.val → Runs P o a x.val fun u w' => u = v ∧ Below x.val.heap.size x.val w')
    (hk : wpLQ P ops B w D p Q rest es (k + 1) F (a.put o.dst v)) : wpLQ P ops B w D p Q (o :: rest) (⟨fun u => u = v, fun _ _ => True⟩ :: es) k F a := by
  refine ⟨entOk_pin _, fun _ x hf => ?_, fun u hu => ?_⟩
  · exact runsUpon_mono (fun v w' ⟨h1, h2⟩ => ⟨h1, trivial, x.next hB hD h2, rfl⟩) (h x hf)
  · rw [hw] at hu ⊢
    cases hu
    exact wpLQ_mono _ _ _ _ _ _ (fun f hf => .inr hf) hk
/-- Some value, of which G holds. -/
theorem wpLQ_loose {o : Oper} {rest : List Oper} {es : List Ent} {k : Nat} {F : Facts} {a : Act} (G : Value → World → Prop) (hG : ∀ u, StableF (fun u u' => Below u.heap.size u u') (G u)) (hB : B ≤ w.heap.size) (hD : Later D) (hw : Region.wanted o (yielded ops a.tmps) = true)
    (h : ∀ x : Bd B w D, Holds k .any ops F x.val → Runs P o a x.val fun u w' => G u w' ∧ Below x.val.heap.size x.val w')
    (hk : ∀ u, wpLQ P ops B w D p Q rest es (k + 1) (F.add k (G u)) (a.put o.dst u)) : wpLQ P ops B w D p Q (o :: rest) (⟨fun _ => True, G⟩ :: es) k F a := by
  refine ⟨⟨⟨undef, trivial⟩, hG⟩, fun _ x hf => ?_, fun u hu => ?_⟩
  · exact runsUpon_mono (fun v w' ⟨h1, h2⟩ => ⟨trivial, h1, x.next hB hD h2, rfl⟩) (h x hf)
  · rw [hw] at hu ⊢
    exact hk u
/-- The part's end. -/
theorem wpLQ_end {l : List Oper} {k : Nat} {F : Facts} {a : Act} (hb : BarOk .any ops p k) (h : ∀ w', Below B w w' → (∀ f, F f → f.2 w') → Q l k a w') : wpLQ P ops B w D p Q l [] k F a := by
  cases l <;> exact ⟨hb, h⟩
/-- The region's end. -/
theorem wpLQ_nil {Q' : Exit → Act → World → Prop} {k : Nat} {F : Facts} {a : Act} (hk : ops.size ≤ k) (h : ∀ w', Below B w w' → (∀ f, F f → f.2 w') → Q' .normal a w') : wpLQ P ops B w D p (RegL P ops Q') [] [] k F a :=
  ⟨fun j i hj hjn _ _ => by omega, fun w' h1 h2 => regL_nil (h w' h1 h2)⟩
theorem regL_lq {Q' : Exit → Act → World → Prop} {a : Act} {l : List Oper} (B : Nat) (es : List Ent) (h : ∀ D, Later D → Nonempty (Bd B w D) → wpLQ P ops B w D p (RegL P ops Q') l es p Facts.none a) : RegL P ops Q' l p a w := by
  have hne := wpLQ_ok _ _ _ _ _ (h (fun _ => True) (fun _ _ _ _ => trivial) ⟨⟨w, Below.refl _ _, trivial⟩⟩)
  exact regL_part (St := fun w' => Below B w w') (R := fun u u' => Below u.heap.size u u') es (fun e he => (hne e he).1) (fun e he => (hne e he).2) (Below.refl _ _) (wpL_of_LQ _ _ _ _ _ h)
end
/-- A slice over a new block, whole. -/
def NewRow (T : TypeId) (l : List Value) (u : Value) (w : World) : Prop := ∃ b, u = .slice (some ⟨b, 0, none⟩) l.length l.length ∧ RowAt w b T l
theorem newRow_stable (T : TypeId) (l : List Value) : ∀ u, StableF (fun u u' => Below u.heap.size u u') (NewRow T l u) := by
  rintro u w w' hb ⟨b, rfl, h⟩
  exact ⟨b, rfl, h.next hb⟩
theorem newRow_new (w : World) (T : TypeId) (l : List Value) : NewRow T l (.slice (some ⟨w.heap.size, 0, none⟩) l.length l.length) (w.alloc (.cells l.toArray T)) ∧ Below w.heap.size w (w.alloc (.cells l.toArray T)) :=
  ⟨⟨_, rfl, RowAt.new w T l⟩, (Below.refl _ _).alloc (Nat.le_refl _) _⟩
/-- A pointer to a new block, whole. -/
def NewPtr (B : Nat) (T : TypeId) (l : List Value) (u : Value) (w : World) : Prop := ∃ b, u = .pointer (some ⟨b, 0, none⟩) ∧ B ≤ b ∧ RowAt w b T l
theorem newPtr_stable (B : Nat) (T : TypeId) (l : List Value) : ∀ u, StableF (fun u u' => Below u.heap.size u u') (NewPtr B T l u) := by
  rintro u w w' hb ⟨b, rfl, h0, h⟩
  exact ⟨b, rfl, h0, h.next hb⟩
theorem newPtr_new (w : World) (T : TypeId) (l : List Value) {B : Nat} (hB : B ≤ w.heap.size) : NewPtr B T l (.pointer (some ⟨w.heap.size, 0, none⟩)) (w.alloc (.cells l.toArray T)) ∧ Below w.heap.size w (w.alloc (.cells l.toArray T)) :=
  ⟨⟨_, rfl, hB, RowAt.new w T l⟩, (Below.refl _ _).alloc (Nat.le_refl _) _⟩
theorem Facts.head {F : Facts} {k j : Nat} {p : World → Prop} {md : Region.Mode} {ops : Array Oper} {w : World} (h : Holds j md ops (F.add k p) w) (ha : Anc md ops j k) : p w := h (k, p) (.inl rfl) ha
theorem Facts.tail {F : Facts} {k j : Nat} {p : World → Prop} {md : Region.Mode} {ops : Array Oper} {w : World} (h : Holds j md ops (F.add k p) w) : Holds j md ops F w := fun f hf => h f (.inr hf)
theorem Facts.first {F : Facts} {k : Nat} {p : World → Prop} {w : World} (h : ∀ f, (F.add k p) f → f.2 w) : p w := h (k, p) (.inl rfl)
theorem Facts.rest {F : Facts} {k : Nat} {p : World → Prop} {w : World} (h : ∀ f, (F.add k p) f → f.2 w) : ∀ f, F f → f.2 w := fun f hf => h f (.inr hf)
end Go.Proofs.Ytefjpljjdjecjaa
