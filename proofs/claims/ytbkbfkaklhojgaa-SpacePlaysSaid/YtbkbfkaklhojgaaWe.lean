/- Take. -/
import Derived.Test.YtbkbfkaklhojgaaWd
namespace Go.Proofs.Ytbkbfkaklhojgaa
open Go.RowKit Go.Shelf
attribute [local go_sem] Oper.semAt_some
theorem Fr.step {M M' : Nat → Prop} {w W W' : World} (h : Fr M w W) (k : Fr M' W W') (hm : ∀ j, j < w.heap.size → M' j → M j) : Fr M w W' :=
  ⟨k.os.trans h.os, k.tape.trans h.tape, k.output.trans h.output, Nat.le_trans h.size k.size, fun j hj hn => (k.block j (by have := h.size; omega) (fun h' => hn (hm j hj h'))).trans (h.block j hj hn)⟩
theorem SI.setLast {w : World} {b N : Nat} {last : Int} {f : Nat → Nat} (h : SI w b N last f) (v : Int) : SI (w.setCell ⟨b, 1, none⟩ (.int .i64 v)) b N v f := by
  obtain ⟨c, ⟨L, h1, h2⟩, h3⟩ := h
  exact ⟨c, ⟨_, h1.set 1 (.int .i64 v), h2.setLast v⟩, h3⟩
theorem idx2_0 (x y : Int) (w : World) : (Instr.index 54 (.agg #[.int .i64 x, .int .i64 y]) (.int .i64 0)).run Try.prog w = .ok (.int .i64 x) w := by
  simp [Instr.index, run_underlying Try.underlying54, asIntOf, go_sem]
theorem idx2_1 (x y : Int) (w : World) : (Instr.index 54 (.agg #[.int .i64 x, .int .i64 y]) (.int .i64 1)).run Try.prog w = .ok (.int .i64 y) w := by
  simp [Instr.index, run_underlying Try.underlying54, asIntOf, go_sem]
attribute [local go_sem] idx2_0 idx2_1
/-- What Take tells. -/
def TakeP (N last : Nat) (f : Nat → Nat) : Option Nat → Prop
  | some x => 2 ≤ x ∧ x < N ∧ f x = 0 ∧ ((last < x ∧ ∀ i, last < i → 2 ≤ i → i < x → f i ≠ 0) ∨ (x ≤ last ∧ (∀ i, last < i → 2 ≤ i → i < N → f i ≠ 0) ∧ ∀ i, 2 ≤ i → i < x → f i ≠ 0))
  | none => ∀ i, 2 ≤ i → i < N → f i ≠ 0
def rN : Option Nat → Int
  | some x => x
  | none => 0
def rE : Option Nat → Int
  | some _ => 0
  | none => 3
def rL (last : Nat) : Option Nat → Nat
  | some x => x
  | none => last
def rF (f : Nat → Nat) : Option Nat → Nat → Nat
  | some x => upd f x 2
  | none => f
set_option maxRecDepth 20000 in
set_option maxHeartbeats 4000000 in
theorem take_any (w : World) (b N last : Nat) (f : Nat → Nat) (h : SI w b N last f) (hN0 : 2 ≤ N) (hN : N ≤ 8192) (hl : last < N) :
    Calls Try.prog 8 #[.pointer (some ⟨b, 0, none⟩)] w fun e w' => ∃ r, e = .returned (.tuple #[.int .i64 (rN r), .int .i64 (rE r)]) ∧ TakeP N last f r ∧ SI w' b N (rL last r : Nat) (rF f r) ∧ Fr (· = b) w w' := by
  refine (callsIn_wide (n := 5)).1 ?_
  have hal : Below w.heap.size w (((w.alloc (.cells #[.pointer (some ⟨b, 0, none⟩)] 25)).alloc (.cells #[.int .i64 0] 3)).alloc (.cells #[.int .i64 0] 26)) := (((Below.refl _ _).alloc (Nat.le_refl _) _).alloc (by simp) _).alloc (by simp; omega) _
  have hbl := h.lt
  have HS := Lib.hid (h.next hal)
  have HAL := Lib.hid hal
  have HR0 : Hid (RowAt (((w.alloc (.cells #[.pointer (some ⟨b, 0, none⟩)] 25)).alloc (.cells #[.int .i64 0] 3)).alloc (.cells #[.int .i64 0] 26)) w.heap.size 25 [.pointer (some ⟨b, 0, none⟩)]) := Lib.hid (((RowAt.new w 25 [.pointer (some ⟨b, 0, none⟩)]).alloc _).alloc _)
  have HR1 : Hid (RowAt (((w.alloc (.cells #[.pointer (some ⟨b, 0, none⟩)] 25)).alloc (.cells #[.int .i64 0] 3)).alloc (.cells #[.int .i64 0] 26)) (w.heap.size + 1) 3 [.int .i64 0]) := Lib.hid (by
    have := (RowAt.new (w.alloc (.cells #[.pointer (some ⟨b, 0, none⟩)] 25)) 3 [.int .i64 0]).alloc (.cells #[.int .i64 0] 26)
    rwa [show (w.alloc (.cells #[.pointer (some ⟨b, 0, none⟩)] 25)).heap.size = w.heap.size + 1 from by simp] at this)
  have HR2 : Hid (RowAt (((w.alloc (.cells #[.pointer (some ⟨b, 0, none⟩)] 25)).alloc (.cells #[.int .i64 0] 3)).alloc (.cells #[.int .i64 0] 26)) (w.heap.size + 1 + 1) 26 [.int .i64 0]) := Lib.hid (by
    have := RowAt.new ((w.alloc (.cells #[.pointer (some ⟨b, 0, none⟩)] 25)).alloc (.cells #[.int .i64 0] 3)) 26 [.int .i64 0]
    rwa [show ((w.alloc (.cells #[.pointer (some ⟨b, 0, none⟩)] 25)).alloc (.cells #[.int .i64 0] 3)).heap.size = w.heap.size + 1 + 1 from by simp] at this)
  have HZ2 : Hid ((((w.alloc (.cells #[.pointer (some ⟨b, 0, none⟩)] 25)).alloc (.cells #[.int .i64 0] 3)).alloc (.cells #[.int .i64 0] 26)).heap.size = w.heap.size + 3) := Lib.hid (by simp)
  obtain ⟨cc, ⟨L, hr, hs⟩, hcn⟩ := HS.out
  have c1 := (hr.cell 1).trans hs.l
  have HCN := Lib.hid hcn
  have HSP : Hid (SpAt _ b N last f cc) := Lib.hid ⟨L, hr, hs⟩
  clear h hal hr hs hcn HS
  refine callsIn_of_wp_marks Try.func8 rfl trivial ?_ rfl
  simp only [Try.ntmps8, List.size_toArray, List.length_cons, List.length_nil, Nat.reduceAdd, Nat.reduceSub, Array.replicate_succ, Array.replicate_zero, List.push_toArray, List.append_toArray, List.nil_append, List.cons_append]
  gi_wp2_with fail
  generalize ((w.alloc (.cells #[.pointer (some ⟨b, 0, none⟩)] 25)).alloc (.cells #[.int .i64 0] 3)).alloc (.cells #[.int .i64 0] 26) = w2 at *
  obtain ⟨b0, hb0⟩ : ∃ b, b = w.heap.size := ⟨_, rfl⟩
  rw [← hb0] at HR0 HR1 HR2 hbl HZ2 HAL ⊢
  have hbz := Lib.hid hb0
  have HFR : Hid (Fr (· = b) w w2) := Lib.hid (Fr.of_below (hb0 ▸ HAL.out))
  have HLT : Hid (b0 + 2 < w2.heap.size) := Lib.hid (by have := HZ2.out; omega)
  clear hb0 c1 HZ2 HAL
  have c0 : w2.cell? ⟨b0, 0, none⟩ = some (.pointer (some ⟨b, 0, none⟩)) := HR0.out.cell 0
  refine wpIn_loop_rounds 3 ?_
  rw [roundsIn_succ]
  gi_wp2_with fail
  refine ⟨trivial, (callsIn_wide.2 (of_any w2 b 0 (last : Nat))).mono ?_⟩
  rintro e w5' ⟨rfl, rfl⟩
  have hal : Below w2.heap.size w2 (((w2.alloc (.cells #[.pointer (some ⟨b, 0, none⟩)] 25)).alloc (.cells #[.int .u8 (0 : Nat)] 48)).alloc (.cells #[.int .i64 (last : Nat)] 3)) := (((Below.refl _ _).alloc (Nat.le_refl _) _).alloc (by simp) _).alloc (by simp; omega) _
  have HA0 : Hid (RowAt (((w2.alloc (.cells #[.pointer (some ⟨b, 0, none⟩)] 25)).alloc (.cells #[.int .u8 (0 : Nat)] 48)).alloc (.cells #[.int .i64 (last : Nat)] 3)) w2.heap.size 25 [.pointer (some ⟨b, 0, none⟩)]) := Lib.hid (((RowAt.new w2 25 [.pointer (some ⟨b, 0, none⟩)]).alloc _).alloc _)
  have HA1 : Hid (RowAt (((w2.alloc (.cells #[.pointer (some ⟨b, 0, none⟩)] 25)).alloc (.cells #[.int .u8 (0 : Nat)] 48)).alloc (.cells #[.int .i64 (last : Nat)] 3)) (w2.heap.size + 1) 48 [.int .u8 (0 : Nat)]) := Lib.hid (by
    have := (RowAt.new (w2.alloc (.cells #[.pointer (some ⟨b, 0, none⟩)] 25)) 48 [.int .u8 (0 : Nat)]).alloc (.cells #[.int .i64 (last : Nat)] 3)
    rwa [show (w2.alloc (.cells #[.pointer (some ⟨b, 0, none⟩)] 25)).heap.size = w2.heap.size + 1 from by simp] at this)
  have HA2 : Hid (RowAt (((w2.alloc (.cells #[.pointer (some ⟨b, 0, none⟩)] 25)).alloc (.cells #[.int .u8 (0 : Nat)] 48)).alloc (.cells #[.int .i64 (last : Nat)] 3)) (w2.heap.size + 1 + 1) 3 [.int .i64 (last : Nat)]) := Lib.hid (by
    have := RowAt.new ((w2.alloc (.cells #[.pointer (some ⟨b, 0, none⟩)] 25)).alloc (.cells #[.int .u8 (0 : Nat)] 48)) 3 [.int .i64 (last : Nat)]
    rwa [show ((w2.alloc (.cells #[.pointer (some ⟨b, 0, none⟩)] 25)).alloc (.cells #[.int .u8 (0 : Nat)] 48)).heap.size = w2.heap.size + 1 + 1 from by simp] at this)
  have HZ : Hid ((((w2.alloc (.cells #[.pointer (some ⟨b, 0, none⟩)] 25)).alloc (.cells #[.int .u8 (0 : Nat)] 48)).alloc (.cells #[.int .i64 (last : Nat)] 3)).heap.size = w2.heap.size + 3) := Lib.hid (by simp)
  have Q0 := Lib.hid (HR0.out.next hal)
  have Q1 := Lib.hid (HR1.out.next hal)
  have Q2 := Lib.hid (HR2.out.next hal)
  have QS := Lib.hid (HSP.out.next hal)
  have QF : Hid (Fr (· = b) w (((w2.alloc (.cells #[.pointer (some ⟨b, 0, none⟩)] 25)).alloc (.cells #[.int .u8 (0 : Nat)] 48)).alloc (.cells #[.int .i64 (last : Nat)] 3))) := Lib.hid (HFR.out.trans (Fr.of_below hal))
  have QE : Hid (True) := Lib.hid trivial
  clear hal c0 HR0 HR1 HR2 HSP HFR 
  gi_wp2_with fail
  generalize (((w2.alloc (.cells #[.pointer (some ⟨b, 0, none⟩)] 25)).alloc (.cells #[.int .u8 (0 : Nat)] 48)).alloc (.cells #[.int .i64 (last : Nat)] 3)) = u1 at *
  obtain ⟨bm1, hbm⟩ : ∃ b, b = w2.heap.size := ⟨_, rfl⟩
  rw [← hbm] at HA0 HA1 HA2 HZ  HLT ⊢
  have HBM := Lib.hid hbm
  clear hbm
  refine wpIn_range_own (gf := 32) (lb := #[.pointer (some ⟨bm1, 0, none⟩), .pointer (some ⟨bm1 + 1, 0, none⟩), .pointer (some ⟨bm1 + 1 + 1, 0, none⟩)]) rfl (enters_of Try.func32 (by kernel_rfl) rfl) (encs := encN) (fun _ => rfl)
    (I := fun s W => s = ⟨max (last + 1) 2, f, cc, last⟩ ∧ SpAt W b N last f cc ∧ RowAt W b0 25 [.pointer (some ⟨b, 0, none⟩)] ∧ RowAt W (b0 + 1) 3 [.int .i64 0] ∧ RowAt W (b0 + 1 + 1) 26 [.int .i64 0] ∧ Fr (· = b) w W ∧ True)
    (fun c W => c = .ret ∧ ∃ x, TakeP N last f (some x) ∧ SI W b N (x : Nat) (upd f x 2) ∧ RowAt W (b0 + 1) 3 [.int .i64 x] ∧ RowAt W (b0 + 1 + 1) 26 [.int .i64 0] ∧ Fr (· = b) w W ∧ True)
    (of_iter 5 u1 b bm1 (bm1 + 1) (bm1 + 1 + 1) N 0 (last : Nat) (· = b) HA0.out HA1.out HA2.out (fun k hk => by have := HLT.out; have := HZ.out; omega) hN (by omega) (by omega) (by omega) _ (fun s W h => by obtain ⟨rfl, h1, _⟩ := h; exact h1) (fun s x s' => False) (fun s x s' h => h.elim) ⟨max (last + 1) 2, f, cc, last⟩ (by simp only []; omega) (fun h i _ h2 => cnt_zero f 0 N ((HCN.out.ct 0 (by omega)).symm.trans h) i h2))
    (fun W W' h => h.keep (by simp) (by simp)) ?hIs ?hIxs ?hIp ?hIxp ?h0 (fun A B C h k => Fr.trans h k) (fun W o hl => (Fr.refl _ W).put _ o (.inr rfl))
    (fun x => { tmps := #[.pointer (some ⟨b, 0, none⟩), .pointer (some ⟨b0, 0, none⟩), .pointer (some ⟨b0 + 1, 0, none⟩), .pointer (some ⟨b0 + 1 + 1, 0, none⟩), undef, .int .i64 (last : Nat), .int .i64 x, .pointer (some ⟨b, 0, none⟩), .bool false, .pointer (some ⟨b, 0, none⟩), .pointer (some ⟨b, 0, none⟩), .pointer (some ⟨b, 1, none⟩), .int .i64 (last : Nat), .agg #[.int .i64 (last : Nat), .int .i64 0], .int .i64 0, .bool true, .int .i64 (last : Nat), .pointer (some ⟨b, 0, none⟩), .int .i64 (last : Nat), .func (.func 32) #[] #[.pointer (some ⟨bm1, 0, none⟩), .pointer (some ⟨bm1 + 1, 0, none⟩), .pointer (some ⟨bm1 + 1 + 1, 0, none⟩)], .int .i64 x, undef, undef, undef, undef, undef, undef, undef, undef, undef], defers := [] }) ?assign ?body ?done ?stop
  case assign =>
    intro x W K hK
    gi_wp2
    exact hK
  case hIs =>
    rintro s W W' ⟨h0, h1, h2, h3, h4, h5, h6⟩ hf
    exact ⟨h0, h1.fr hf id, h2.fr hf id, h3.fr hf id, h4.fr hf id, h5.trans (hf.mono (fun _ _ h => h.elim)), h6⟩
  case hIxs =>
    rintro c W W' ⟨h0, x, h1, h2, h3, h4, h5, h6⟩ hf
    exact ⟨h0, x, h1, h2.fr hf id, h3.fr hf id, h4.fr hf id, h5.trans (hf.mono (fun _ _ h => h.elim)), h6⟩
  case hIp =>
    rintro s W k o hk1 hk2 hk3 ⟨h0, h1, h2, h3, h4, h5, h6⟩
    have hf : Fr (fun j => j = k) W (W.putObj k o) := (Fr.refl (fun j => j = k) W).put k o rfl
    have hz := hbz.out
    have g1 := HLT.out
    have g2 := HZ.out
    refine ⟨h0, h1.fr hf (by omega), h2.fr hf (by omega), h3.fr hf (by omega), h4.fr hf (by omega), ?_, h6⟩
    refine ⟨h5.os, h5.tape, h5.output, ?_, fun j hj hn => ?_⟩
    · have := h5.size; simpa using this
    · exact (hf.block j (by have := h5.size; omega) (by omega)).trans (h5.block j hj hn)
  case hIxp =>
    rintro c W k o hk1 hk2 hk3 ⟨h0, x, h1, h2, h3, h4, h5, h6⟩
    have hf : Fr (fun j => j = k) W (W.putObj k o) := (Fr.refl (fun j => j = k) W).put k o rfl
    have hz := hbz.out
    have g1 := HLT.out
    have g2 := HZ.out
    refine ⟨h0, x, h1, h2.fr hf (by omega), h3.fr hf (by omega), h4.fr hf (by omega), ?_, h6⟩
    refine ⟨h5.os, h5.tape, h5.output, ?_, fun j hj hn => ?_⟩
    · have := h5.size; simpa using this
    · exact (hf.block j (by have := h5.size; omega) (by omega)).trans (h5.block j hj hn)
  case h0 =>
    intro r
    have hal : Below u1.heap.size u1 ((u1.alloc (.deferred (some []))).alloc (.loop r)) := ((Below.refl _ _).alloc (Nat.le_refl _) _).alloc (by simp) _
    exact ⟨rfl, QS.out.next hal, Q0.out.next hal, Q1.out.next hal, Q2.out.next hal, QF.out.trans (Fr.of_below hal), trivial⟩
  case body =>
    rintro s x W hlt ⟨rfl, h1, h2, h3, h4, h5, h6⟩ hok
    have c0 : W.cell? ⟨b0, 0, none⟩ = some (.pointer (some ⟨b, 0, none⟩)) := h2.cell 0
    have HP := Lib.hid (put_si W b N last f ⟨_, h1, HCN.out⟩ hN x 2 hok.2.1 (by omega))
    have H2 := Lib.hid h2
    have H3 := Lib.hid h3
    have H4 := Lib.hid h4
    have H5 := Lib.hid h5
    have H6 : Hid (True) := Lib.hid h6
    have HOK := Lib.hid hok
    clear h1 h2 h3 h4 h5 h6 hok
    gi_wp2_with fail
    refine ⟨trivial, CallsIn.inRound _ ((callsIn_wide.2 HP.out).mono ?_)⟩
    rintro e W' ⟨rfl, hs', hf⟩
    obtain ⟨c', ⟨L', r1, r2⟩, r3⟩ := hs'
    have d1 := (r1.cell 1).trans r2.l
    have e1 := r1.free 1
    have HS' : Hid (SI W' b N last (upd f x 2)) := Lib.hid ⟨c', ⟨L', r1, r2⟩, r3⟩
    have R2 := Lib.hid (H2.out.fr hf (by omega))
    have R3 := Lib.hid (H3.out.fr hf (by omega))
    have R4 := Lib.hid (H4.out.fr hf (by omega))
    have d0 : W'.cell? ⟨b0, 0, none⟩ = some (.pointer (some ⟨b, 0, none⟩)) := R2.out.cell 0
    have d3 : W'.cell? ⟨b0 + 1, 0, none⟩ = some (.int .i64 0) := R3.out.cell 0
    have d4 : W'.cell? ⟨b0 + 1 + 1, 0, none⟩ = some (.int .i64 0) := R4.out.cell 0
    have e3 := R3.out.free 0
    have e4 := R4.out.free 0
    have HF := Lib.hid hf
    have n1 : b ≠ b0 := by omega
    have n2 : b ≠ b0 + 1 := by omega
    have n3 : b ≠ b0 + 1 + 1 := by omega
    clear hf c0 r1 r2 r3
    gi_wp2_with fail
    have g1 := HLT.out
    have g2 := HZ.out
    have f1 : Fr (· = b) W' (W'.setCell ⟨b, 1, none⟩ (.int .i64 x)) := (Fr.refl (· = b) W').setCell (b := b) rfl _
    have f2 : Fr (· = b0 + 1) (W'.setCell ⟨b, 1, none⟩ (.int .i64 x)) ((W'.setCell ⟨b, 1, none⟩ (.int .i64 x)).setCell ⟨b0 + 1, 0, none⟩ (.int .i64 x)) := (Fr.refl (· = b0 + 1) _).setCell (b := b0 + 1) rfl _
    have f3 : Fr (· = b0 + 1 + 1) ((W'.setCell ⟨b, 1, none⟩ (.int .i64 x)).setCell ⟨b0 + 1, 0, none⟩ (.int .i64 x)) (((W'.setCell ⟨b, 1, none⟩ (.int .i64 x)).setCell ⟨b0 + 1, 0, none⟩ (.int .i64 x)).setCell ⟨b0 + 1 + 1, 0, none⟩ (.int .i64 0)) := (Fr.refl (· = b0 + 1 + 1) _).setCell (b := b0 + 1 + 1) rfl _
    have fA : Fr (fun j => j = b ∨ j = b0 + 1 ∨ j = b0 + 1 + 1) W (((W'.setCell ⟨b, 1, none⟩ (.int .i64 x)).setCell ⟨b0 + 1, 0, none⟩ (.int .i64 x)).setCell ⟨b0 + 1 + 1, 0, none⟩ (.int .i64 0)) := (((HF.out.mono (fun _ _ e => .inl e)).trans (f1.mono (fun _ _ e => .inl e))).trans (f2.mono (fun _ _ e => .inr (.inl e)))).trans (f3.mono (fun _ _ e => .inr (.inr e)))
    have z := hbz.out
    refine ⟨fA.keep (by omega) (by omega), rfl, x, (by
      obtain ⟨q1, q2, q3, q4⟩ := HOK.out
      have q1 : max (last + 1) 2 ≤ x := q1
      exact ⟨by omega, q2, q3, .inl ⟨by omega, fun i j1 j2 j3 => q4 i (by show max (last + 1) 2 ≤ i; omega) j3⟩⟩), ((HS'.out.setLast x).fr f2 (by omega)).fr f3 (by omega), ((R3.out.fr f1 (by omega)).set 0 _).fr f3 (by omega), ((R4.out.fr f1 (by omega)).fr f2 (by omega)).set 0 _, ?_, trivial⟩
    have h5 := H5.out
    exact h5.step fA (by omega)
  case stop =>
    rintro c W ⟨rfl, x, h1, h2, h3, h4, h5, h6⟩ hK
    have H1 := Lib.hid h1
    have H2 := Lib.hid h2
    have H3 := Lib.hid h3
    have H4 := Lib.hid h4
    have H5 := Lib.hid h5
    have H6 : Hid (True) := Lib.hid h6
    have HK := Lib.hid hK
    clear h1 h2 h3 h4 h5 h6 hK
    gi_wp2
    have g1 := HLT.out
    have g2 := HZ.out
    have z := hbz.out
    refine ⟨by simp, .inl ⟨_, _, rfl, run_takeDeferred HK.out, ?_⟩⟩
    have hp : Fr (fun k => b0 + 3 ≤ k) W (W.putObj u1.heap.size (.deferred none)) := (Fr.refl (fun k => b0 + 3 ≤ k) _).put _ _ (by omega)
    generalize W.putObj u1.heap.size (.deferred none) = W9 at *
    have d0 := (H3.out.fr hp (by omega)).cell 0
    have d1 := (H4.out.fr hp (by omega)).cell 0
    simp only [List.getElem?_cons_zero] at d0 d1
    refine ⟨_, by simp [results, Try.results8, go_sem, d0, d1, rN, rE], some x, rfl, H1.out, H2.out.fr hp (by omega), ?_⟩
    have h5 := H5.out
    exact h5.step hp (by omega)
  case done =>
    rintro s W hFin ⟨rfl, h1, h2, h3, h4, h5, h6⟩ hK
    have HFIN : Hid (∀ i, max (last + 1) 2 ≤ i → i < N → f i ≠ 0) := Lib.hid hFin
    have HSP := Lib.hid h1
    have HR0 := Lib.hid h2
    have HR1 := Lib.hid h3
    have HR2 := Lib.hid h4
    have HFR := Lib.hid h5
    obtain ⟨r1, hr1⟩ : ∃ r, r = u1.heap.size := ⟨_, rfl⟩
    rw [← hr1] at hK ⊢
    have HE := Lib.hid hK
    have HLE : Hid (b0 + 3 ≤ r1 ∧ r1 < W.heap.size) := Lib.hid ⟨by have := HZ.out; have := HLT.out; omega, (Array.getElem?_eq_some_iff.1 hK).1⟩
    have HLT' : Hid (b0 + 2 < W.heap.size) := Lib.hid (by have := HLE.out; omega)
    have c0 : W.cell? ⟨b0, 0, none⟩ = some (.pointer (some ⟨b, 0, none⟩)) := h2.cell 0
    clear hFin h1 h2 h3 h4 h5 h6 hK HA0 HA1 HA2 HZ Q0 Q1 Q2 QS QF QE HLT HBM hr1
    have HLT := HLT'
    clear HLT'
    generalize W = w3 at *
    gi_wp2_with fail
    rw [roundsIn_succ]
    gi_wp2_with fail
    refine ⟨trivial, (callsIn_wide.2 (of_any w3 b 0 0)).mono ?_⟩
    rintro e w5' ⟨rfl, rfl⟩
    have hal : Below w3.heap.size w3 (((w3.alloc (.cells #[.pointer (some ⟨b, 0, none⟩)] 25)).alloc (.cells #[.int .u8 (0 : Nat)] 48)).alloc (.cells #[.int .i64 0] 3)) := (((Below.refl _ _).alloc (Nat.le_refl _) _).alloc (by simp) _).alloc (by simp; omega) _
    have HA0 : Hid (RowAt (((w3.alloc (.cells #[.pointer (some ⟨b, 0, none⟩)] 25)).alloc (.cells #[.int .u8 (0 : Nat)] 48)).alloc (.cells #[.int .i64 0] 3)) w3.heap.size 25 [.pointer (some ⟨b, 0, none⟩)]) := Lib.hid (((RowAt.new w3 25 [.pointer (some ⟨b, 0, none⟩)]).alloc _).alloc _)
    have HA1 : Hid (RowAt (((w3.alloc (.cells #[.pointer (some ⟨b, 0, none⟩)] 25)).alloc (.cells #[.int .u8 (0 : Nat)] 48)).alloc (.cells #[.int .i64 0] 3)) (w3.heap.size + 1) 48 [.int .u8 (0 : Nat)]) := Lib.hid (by
      have := (RowAt.new (w3.alloc (.cells #[.pointer (some ⟨b, 0, none⟩)] 25)) 48 [.int .u8 (0 : Nat)]).alloc (.cells #[.int .i64 0] 3)
      rwa [show (w3.alloc (.cells #[.pointer (some ⟨b, 0, none⟩)] 25)).heap.size = w3.heap.size + 1 from by simp] at this)
    have HA2 : Hid (RowAt (((w3.alloc (.cells #[.pointer (some ⟨b, 0, none⟩)] 25)).alloc (.cells #[.int .u8 (0 : Nat)] 48)).alloc (.cells #[.int .i64 0] 3)) (w3.heap.size + 1 + 1) 3 [.int .i64 0]) := Lib.hid (by
      have := RowAt.new ((w3.alloc (.cells #[.pointer (some ⟨b, 0, none⟩)] 25)).alloc (.cells #[.int .u8 (0 : Nat)] 48)) 3 [.int .i64 0]
      rwa [show ((w3.alloc (.cells #[.pointer (some ⟨b, 0, none⟩)] 25)).alloc (.cells #[.int .u8 (0 : Nat)] 48)).heap.size = w3.heap.size + 1 + 1 from by simp] at this)
    have HZ : Hid ((((w3.alloc (.cells #[.pointer (some ⟨b, 0, none⟩)] 25)).alloc (.cells #[.int .u8 (0 : Nat)] 48)).alloc (.cells #[.int .i64 0] 3)).heap.size = w3.heap.size + 3) := Lib.hid (by simp)
    have Q0 := Lib.hid (HR0.out.next hal)
    have Q1 := Lib.hid (HR1.out.next hal)
    have Q2 := Lib.hid (HR2.out.next hal)
    have QS := Lib.hid (HSP.out.next hal)
    have QF : Hid (Fr (· = b) w (((w3.alloc (.cells #[.pointer (some ⟨b, 0, none⟩)] 25)).alloc (.cells #[.int .u8 (0 : Nat)] 48)).alloc (.cells #[.int .i64 0] 3))) := Lib.hid (HFR.out.trans (Fr.of_below hal))
    have QE : Hid ((((w3.alloc (.cells #[.pointer (some ⟨b, 0, none⟩)] 25)).alloc (.cells #[.int .u8 (0 : Nat)] 48)).alloc (.cells #[.int .i64 0] 3)).heap[r1]? = some (.deferred (some []))) := Lib.hid ((hal.block _ HLE.out.2).trans HE.out)
    clear hal c0 HR0 HR1 HR2 HSP HFR HE
    gi_wp2_with fail
    generalize (((w3.alloc (.cells #[.pointer (some ⟨b, 0, none⟩)] 25)).alloc (.cells #[.int .u8 (0 : Nat)] 48)).alloc (.cells #[.int .i64 0] 3)) = u2 at *
    obtain ⟨bm2, hbm⟩ : ∃ b, b = w3.heap.size := ⟨_, rfl⟩
    rw [← hbm] at HA0 HA1 HA2 HZ HLE HLT ⊢
    have HBM := Lib.hid hbm
    clear hbm
    refine wpIn_range_own (gf := 32) (lb := #[.pointer (some ⟨bm2, 0, none⟩), .pointer (some ⟨bm2 + 1, 0, none⟩), .pointer (some ⟨bm2 + 1 + 1, 0, none⟩)]) rfl (enters_of Try.func32 (by kernel_rfl) rfl) (encs := encN) (fun _ => rfl)
      (I := fun s W => s = ⟨2, f, cc, last⟩ ∧ SpAt W b N last f cc ∧ RowAt W b0 25 [.pointer (some ⟨b, 0, none⟩)] ∧ RowAt W (b0 + 1) 3 [.int .i64 0] ∧ RowAt W (b0 + 1 + 1) 26 [.int .i64 0] ∧ Fr (· = b) w W ∧ W.heap[r1]? = some (.deferred (some [])))
      (fun c W => c = .ret ∧ ∃ x, TakeP N last f (some x) ∧ SI W b N (x : Nat) (upd f x 2) ∧ RowAt W (b0 + 1) 3 [.int .i64 x] ∧ RowAt W (b0 + 1 + 1) 26 [.int .i64 0] ∧ Fr (· = b) w W ∧ W.heap[r1]? = some (.deferred (some [])))
      (of_iter 5 u2 b bm2 (bm2 + 1) (bm2 + 1 + 1) N 0 0 (· = b) HA0.out HA1.out HA2.out (fun k hk => by have := HLT.out; have := HZ.out; omega) hN (by omega) (by omega) (by omega) _ (fun s W h => by obtain ⟨rfl, h1, _⟩ := h; exact h1) (fun s x s' => False) (fun s x s' h => h.elim) ⟨2, f, cc, last⟩ (by rfl) (fun h i _ h2 => cnt_zero f 0 N ((HCN.out.ct 0 (by omega)).symm.trans h) i h2))
      (fun W W' h => h.keep (by simp) (by simp)) ?hIs ?hIxs ?hIp ?hIxp ?h0 (fun A B C h k => Fr.trans h k) (fun W o hl => (Fr.refl _ W).put _ o (.inr rfl))
      (fun x => { tmps := #[.pointer (some ⟨b, 0, none⟩), .pointer (some ⟨b0, 0, none⟩), .pointer (some ⟨b0 + 1, 0, none⟩), .pointer (some ⟨b0 + 1 + 1, 0, none⟩), undef, .int .i64 0, .int .i64 x, .pointer (some ⟨b, 0, none⟩), .bool false, .pointer (some ⟨b, 0, none⟩), .pointer (some ⟨b, 0, none⟩), .pointer (some ⟨b, 1, none⟩), .int .i64 (last : Nat), .agg #[.int .i64 (last : Nat), .int .i64 0], .int .i64 1, .bool true, .int .i64 0, .pointer (some ⟨b, 0, none⟩), .int .i64 0, .func (.func 32) #[] #[.pointer (some ⟨bm2, 0, none⟩), .pointer (some ⟨bm2 + 1, 0, none⟩), .pointer (some ⟨bm2 + 1 + 1, 0, none⟩)], .int .i64 x, undef, undef, undef, undef, undef, undef, undef, undef, .int .i64 1], defers := [] }) ?assign ?body ?done ?stop
    case assign =>
      intro x W K hK
      gi_wp2
      exact hK
    case hIs =>
      rintro s W W' ⟨h0, h1, h2, h3, h4, h5, h6⟩ hf
      exact ⟨h0, h1.fr hf id, h2.fr hf id, h3.fr hf id, h4.fr hf id, h5.trans (hf.mono (fun _ _ h => h.elim)), (hf.block _ (Array.getElem?_eq_some_iff.1 h6).1 id).trans h6⟩
    case hIxs =>
      rintro c W W' ⟨h0, x, h1, h2, h3, h4, h5, h6⟩ hf
      exact ⟨h0, x, h1, h2.fr hf id, h3.fr hf id, h4.fr hf id, h5.trans (hf.mono (fun _ _ h => h.elim)), (hf.block _ (Array.getElem?_eq_some_iff.1 h6).1 id).trans h6⟩
    case hIp =>
      rintro s W k o hk1 hk2 hk3 ⟨h0, h1, h2, h3, h4, h5, h6⟩
      have hf : Fr (fun j => j = k) W (W.putObj k o) := (Fr.refl (fun j => j = k) W).put k o rfl
      have hz := hbz.out
      have g1 := HLT.out
      have g2 := HZ.out
      refine ⟨h0, h1.fr hf (by omega), h2.fr hf (by omega), h3.fr hf (by omega), h4.fr hf (by omega), ?_, (hf.block _ (Array.getElem?_eq_some_iff.1 h6).1 (by have := HLE.out; omega)).trans h6⟩
      refine ⟨h5.os, h5.tape, h5.output, ?_, fun j hj hn => ?_⟩
      · have := h5.size; simpa using this
      · exact (hf.block j (by have := h5.size; omega) (by omega)).trans (h5.block j hj hn)
    case hIxp =>
      rintro c W k o hk1 hk2 hk3 ⟨h0, x, h1, h2, h3, h4, h5, h6⟩
      have hf : Fr (fun j => j = k) W (W.putObj k o) := (Fr.refl (fun j => j = k) W).put k o rfl
      have hz := hbz.out
      have g1 := HLT.out
      have g2 := HZ.out
      refine ⟨h0, x, h1, h2.fr hf (by omega), h3.fr hf (by omega), h4.fr hf (by omega), ?_, (hf.block _ (Array.getElem?_eq_some_iff.1 h6).1 (by have := HLE.out; omega)).trans h6⟩
      refine ⟨h5.os, h5.tape, h5.output, ?_, fun j hj hn => ?_⟩
      · have := h5.size; simpa using this
      · exact (hf.block j (by have := h5.size; omega) (by omega)).trans (h5.block j hj hn)
    case h0 =>
      intro r
      have hal : Below u2.heap.size u2 ((u2.alloc (.deferred (some []))).alloc (.loop r)) := ((Below.refl _ _).alloc (Nat.le_refl _) _).alloc (by simp) _
      exact ⟨rfl, QS.out.next hal, Q0.out.next hal, Q1.out.next hal, Q2.out.next hal, QF.out.trans (Fr.of_below hal), (hal.block _ (by have := HLE.out; have := HZ.out; omega)).trans QE.out⟩
    case body =>
      rintro s x W hlt ⟨rfl, h1, h2, h3, h4, h5, h6⟩ hok
      have c0 : W.cell? ⟨b0, 0, none⟩ = some (.pointer (some ⟨b, 0, none⟩)) := h2.cell 0
      have HP := Lib.hid (put_si W b N last f ⟨_, h1, HCN.out⟩ hN x 2 hok.2.1 (by omega))
      have H2 := Lib.hid h2
      have H3 := Lib.hid h3
      have H4 := Lib.hid h4
      have H5 := Lib.hid h5
      have H6 : Hid (W.heap[r1]? = some (.deferred (some []))) := Lib.hid h6
      have HOK := Lib.hid hok
      clear h1 h2 h3 h4 h5 h6 hok
      gi_wp2_with fail
      refine ⟨trivial, CallsIn.inRound _ ((callsIn_wide.2 HP.out).mono ?_)⟩
      rintro e W' ⟨rfl, hs', hf⟩
      obtain ⟨c', ⟨L', r1, r2⟩, r3⟩ := hs'
      have d1 := (r1.cell 1).trans r2.l
      have e1 := r1.free 1
      have HS' : Hid (SI W' b N last (upd f x 2)) := Lib.hid ⟨c', ⟨L', r1, r2⟩, r3⟩
      have R2 := Lib.hid (H2.out.fr hf (by omega))
      have R3 := Lib.hid (H3.out.fr hf (by omega))
      have R4 := Lib.hid (H4.out.fr hf (by omega))
      have d0 : W'.cell? ⟨b0, 0, none⟩ = some (.pointer (some ⟨b, 0, none⟩)) := R2.out.cell 0
      have d3 : W'.cell? ⟨b0 + 1, 0, none⟩ = some (.int .i64 0) := R3.out.cell 0
      have d4 : W'.cell? ⟨b0 + 1 + 1, 0, none⟩ = some (.int .i64 0) := R4.out.cell 0
      have e3 := R3.out.free 0
      have e4 := R4.out.free 0
      have HF := Lib.hid hf
      have n1 : b ≠ b0 := by omega
      have n2 : b ≠ b0 + 1 := by omega
      have n3 : b ≠ b0 + 1 + 1 := by omega
      clear hf c0 r1 r2 r3
      gi_wp2_with fail
      have g1 := HLT.out
      have g2 := HZ.out
      have f1 : Fr (· = b) W' (W'.setCell ⟨b, 1, none⟩ (.int .i64 x)) := (Fr.refl (· = b) W').setCell (b := b) rfl _
      have f2 : Fr (· = b0 + 1) (W'.setCell ⟨b, 1, none⟩ (.int .i64 x)) ((W'.setCell ⟨b, 1, none⟩ (.int .i64 x)).setCell ⟨b0 + 1, 0, none⟩ (.int .i64 x)) := (Fr.refl (· = b0 + 1) _).setCell (b := b0 + 1) rfl _
      have f3 : Fr (· = b0 + 1 + 1) ((W'.setCell ⟨b, 1, none⟩ (.int .i64 x)).setCell ⟨b0 + 1, 0, none⟩ (.int .i64 x)) (((W'.setCell ⟨b, 1, none⟩ (.int .i64 x)).setCell ⟨b0 + 1, 0, none⟩ (.int .i64 x)).setCell ⟨b0 + 1 + 1, 0, none⟩ (.int .i64 0)) := (Fr.refl (· = b0 + 1 + 1) _).setCell (b := b0 + 1 + 1) rfl _
      have fA : Fr (fun j => j = b ∨ j = b0 + 1 ∨ j = b0 + 1 + 1) W (((W'.setCell ⟨b, 1, none⟩ (.int .i64 x)).setCell ⟨b0 + 1, 0, none⟩ (.int .i64 x)).setCell ⟨b0 + 1 + 1, 0, none⟩ (.int .i64 0)) := (((HF.out.mono (fun _ _ e => .inl e)).trans (f1.mono (fun _ _ e => .inl e))).trans (f2.mono (fun _ _ e => .inr (.inl e)))).trans (f3.mono (fun _ _ e => .inr (.inr e)))
      have z := hbz.out
      refine ⟨fA.keep (by omega) (by omega), rfl, x, (by
        obtain ⟨q1, q2, q3, q4⟩ := HOK.out
        have q1 : 2 ≤ x := q1
        refine ⟨by omega, q2, q3, .inr ⟨?_, fun i j1 j2 j3 => HFIN.out i (by show max (last + 1) 2 ≤ i; omega) j3, fun i j1 j2 => q4 i j1 j2⟩⟩
        by_cases hh : x ≤ last
        · exact hh
        · exact absurd q3 (HFIN.out x (by show max (last + 1) 2 ≤ x; omega) q2)), ((HS'.out.setLast x).fr f2 (by omega)).fr f3 (by omega), ((R3.out.fr f1 (by omega)).set 0 _).fr f3 (by omega), ((R4.out.fr f1 (by omega)).fr f2 (by omega)).set 0 _, ?_, (fA.block _ (Array.getElem?_eq_some_iff.1 H6.out).1 (by have := HLE.out; omega)).trans H6.out⟩
      have h5 := H5.out
      exact h5.step fA (by omega)
    case stop =>
      rintro c W ⟨rfl, x, h1, h2, h3, h4, h5, h6⟩ hK
      have H1 := Lib.hid h1
      have H2 := Lib.hid h2
      have H3 := Lib.hid h3
      have H4 := Lib.hid h4
      have H5 := Lib.hid h5
      have H6 : Hid (W.heap[r1]? = some (.deferred (some []))) := Lib.hid h6
      have HK := Lib.hid hK
      clear h1 h2 h3 h4 h5 h6 hK
      gi_wp2
      have g1 := HLT.out
      have g2 := HZ.out
      have z := hbz.out
      refine ⟨by simp, .inl ⟨_, _, rfl, run_takeDeferred HK.out, ?_⟩⟩
      have hp : Fr (fun k => b0 + 3 ≤ k) W (W.putObj u2.heap.size (.deferred none)) := (Fr.refl (fun k => b0 + 3 ≤ k) _).put _ _ (by omega)
      have hE : (W.putObj u2.heap.size (.deferred none)).heap[r1]? = some (.deferred (some [])) := (World.putObj_heap_other (by have := HLE.out; omega)).trans H6.out
      generalize W.putObj u2.heap.size (.deferred none) = W8 at *
      refine ⟨by simp, .inl ⟨_, _, rfl, run_takeDeferred hE, ?_⟩⟩
      replace hp : Fr (fun k => b0 + 3 ≤ k) W (W8.putObj r1 (.deferred none)) := hp.put _ _ (by have := HLE.out; omega)
      generalize W8.putObj r1 (.deferred none) = W9 at *
      have d0 := (H3.out.fr hp (by omega)).cell 0
      have d1 := (H4.out.fr hp (by omega)).cell 0
      simp only [List.getElem?_cons_zero] at d0 d1
      refine ⟨_, by simp [results, Try.results8, go_sem, d0, d1, rN, rE], some x, rfl, H1.out, H2.out.fr hp (by omega), ?_⟩
      have h5 := H5.out
      exact h5.step hp (by omega)

    case done =>
      rintro s W hFin ⟨rfl, h1, h2, h3, h4, h5, h6⟩ hK
      have HNO : Hid (TakeP N last f none) := Lib.hid hFin
      have H1 := Lib.hid h1
      have H3 := Lib.hid h3
      have H4 := Lib.hid h4
      have H5 := Lib.hid h5
      have H6 := Lib.hid h6
      have HK := Lib.hid hK
      have d3 : W.cell? ⟨b0 + 1, 0, none⟩ = some (.int .i64 0) := h3.cell 0
      have d4 : W.cell? ⟨b0 + 1 + 1, 0, none⟩ = some (.int .i64 0) := h4.cell 0
      have e3 := h3.free 0
      have e4 := h4.free 0
      have g1 := HLT.out
      have g2 := HZ.out
      have z := hbz.out
      have HG := Lib.hid g2
      have HZ' := Lib.hid z
      clear hFin h1 h2 h3 h4 h5 h6 hK HA0 HA1 HA2 HZ Q0 Q1 Q2 QS QF QE HLT HBM g2 z
      gi_wp2_with fail
      rw [roundsIn_succ]
      gi_wp2_with fail
      have g2 := HG.out
      have z := HZ'.out
      have f2 : Fr (· = b0 + 1) W (W.setCell ⟨b0 + 1, 0, none⟩ (.int .i64 0)) := (Fr.refl (· = b0 + 1) _).setCell (b := b0 + 1) rfl _
      have f3 : Fr (· = b0 + 1 + 1) (W.setCell ⟨b0 + 1, 0, none⟩ (.int .i64 0)) ((W.setCell ⟨b0 + 1, 0, none⟩ (.int .i64 0)).setCell ⟨b0 + 1 + 1, 0, none⟩ (.int .i64 3)) := (Fr.refl (· = b0 + 1 + 1) _).setCell (b := b0 + 1 + 1) rfl _
      have fA : Fr (fun j => j = b0 + 1 ∨ j = b0 + 1 + 1) W ((W.setCell ⟨b0 + 1, 0, none⟩ (.int .i64 0)).setCell ⟨b0 + 1 + 1, 0, none⟩ (.int .i64 3)) := (f2.mono (fun _ _ e => .inl e)).trans (f3.mono (fun _ _ e => .inr e))
      have k2 := (fA.block _ (Array.getElem?_eq_some_iff.1 HK.out).1 (by omega)).trans HK.out
      have k1 := (fA.block _ (Array.getElem?_eq_some_iff.1 H6.out).1 (by have := HLE.out; omega)).trans H6.out
      have R3 := (H3.out.set 0 (.int .i64 0)).fr f3 (by omega)
      have R4 := (H4.out.fr f2 (by omega)).set 0 (.int .i64 3)
      generalize (W.setCell ⟨b0 + 1, 0, none⟩ (.int .i64 0)).setCell ⟨b0 + 1 + 1, 0, none⟩ (.int .i64 3) = W7 at *
      refine ⟨by simp, .inl ⟨_, _, rfl, run_takeDeferred k2, ?_⟩⟩
      have hp : Fr (fun k => b0 + 3 ≤ k) W7 (W7.putObj u2.heap.size (.deferred none)) := (Fr.refl (fun k => b0 + 3 ≤ k) _).put _ _ (by omega)
      have hE : (W7.putObj u2.heap.size (.deferred none)).heap[r1]? = some (.deferred (some [])) := (World.putObj_heap_other (by have := HLE.out; omega)).trans k1
      generalize W7.putObj u2.heap.size (.deferred none) = W8 at *
      refine ⟨by simp, .inl ⟨_, _, rfl, run_takeDeferred hE, ?_⟩⟩
      replace hp : Fr (fun k => b0 + 3 ≤ k) W7 (W8.putObj r1 (.deferred none)) := hp.put _ _ (by have := HLE.out; omega)
      generalize W8.putObj r1 (.deferred none) = W9 at *
      have d0 := (R3.fr hp (by omega)).cell 0
      have d1 := (R4.fr hp (by omega)).cell 0
      simp only [List.set_cons_zero, List.getElem?_cons_zero] at d0 d1
      refine ⟨_, by simp [results, Try.results8, go_sem, d0, d1, rN, rE], none, rfl, HNO.out, ⟨cc, (H1.out.fr fA (by omega)).fr hp (by omega), HCN.out⟩, ?_⟩
      exact (H5.out.step fA (by omega)).step hp (by omega)
end Go.Proofs.Ytbkbfkaklhojgaa
