/- all: the range over of's function. -/
import Derived.Test.YtbkbfkaklhojgaaWc
namespace Go.Proofs.Ytbkbfkaklhojgaa
open Go.RowKit Go.Shelf
attribute [local go_sem] Oper.semAt_some
theorem put_si (w : World) (b N : Nat) (last : Int) (f : Nat → Nat) (h : SI w b N last f) (hN : N ≤ 8192) (n t : Nat) (hn : n < N) (ht : t < 4) :
    Calls Try.prog 22 #[.pointer (some ⟨b, 0, none⟩), .int .i64 n, .int .u8 t] w fun e w' => e = .returned (.tuple #[]) ∧ SI w' b N last (upd f n t) ∧ Fr (· = b) w w' := by
  obtain ⟨c, h1, h2⟩ := h
  refine (put_any w b N last f c h1 n t (by omega) ht (h2.st n) (h2.bd hN)).mono ?_
  rintro e w' ⟨rfl, h3, h4⟩
  exact ⟨rfl, ⟨_, h3, h2.put hn ht⟩, h4⟩
set_option maxRecDepth 20000 in
set_option maxHeartbeats 4000000 in
theorem all_any (w : World) (b N : Nat) (last : Int) (f : Nat → Nat) (h : SI w b N last f) (hN0 : 2 ≤ N) (hN : N ≤ 8192) (a t : Nat) (ha : a < 4) (ht : t < 4) :
    Calls Try.prog 25 #[.pointer (some ⟨b, 0, none⟩), .int .u8 a, .int .u8 t] w fun e w' => e = .returned (.tuple #[]) ∧ SI w' b N last (turnF N f a t) ∧ Fr (· = b) w w' := by
  refine (callsIn_wide (n := 5)).1 ?_
  have hal : Below w.heap.size w ((w.alloc (.cells #[.pointer (some ⟨b, 0, none⟩)] 25)).alloc (.cells #[.int .u8 t] 48)) := ((Below.refl _ _).alloc (Nat.le_refl _) _).alloc (by simp) _
  have hbl := h.lt
  have HS := Lib.hid (h.next hal)
  have HAL := Lib.hid hal
  have HR0 : Hid (RowAt ((w.alloc (.cells #[.pointer (some ⟨b, 0, none⟩)] 25)).alloc (.cells #[.int .u8 t] 48)) w.heap.size 25 [.pointer (some ⟨b, 0, none⟩)]) := Lib.hid ((RowAt.new w 25 [.pointer (some ⟨b, 0, none⟩)]).alloc _)
  have HR1 : Hid (RowAt ((w.alloc (.cells #[.pointer (some ⟨b, 0, none⟩)] 25)).alloc (.cells #[.int .u8 t] 48)) (w.heap.size + 1) 48 [.int .u8 t]) := Lib.hid (by
    have := RowAt.new (w.alloc (.cells #[.pointer (some ⟨b, 0, none⟩)] 25)) 48 [.int .u8 t]
    rwa [show (w.alloc (.cells #[.pointer (some ⟨b, 0, none⟩)] 25)).heap.size = w.heap.size + 1 from by simp] at this)
  have hz2 : ((w.alloc (.cells #[.pointer (some ⟨b, 0, none⟩)] 25)).alloc (.cells #[.int .u8 t] 48)).heap.size = w.heap.size + 2 := by simp
  have HZ2 := Lib.hid hz2
  clear h hal hz2
  refine callsIn_of_wp_marks Try.func25 rfl trivial ?_ rfl
  simp only [Try.ntmps25, List.size_toArray, List.length_cons, List.length_nil, Nat.reduceAdd, Nat.reduceSub, Array.replicate_succ, Array.replicate_zero, List.push_toArray, List.append_toArray, List.nil_append, List.cons_append]
  gi_wp2_with fail
  generalize (w.alloc (.cells #[.pointer (some ⟨b, 0, none⟩)] 25)).alloc (.cells #[.int .u8 t] 48) = w2 at *
  have c0 : w2.cell? ⟨w.heap.size, 0, none⟩ = some (.pointer (some ⟨b, 0, none⟩)) := HR0.out.cell 0
  gi_wp2_with fail
  refine ⟨trivial, (callsIn_wide.2 (of_any w2 b a 0)).mono ?_⟩
  rintro e w5' ⟨rfl, rfl⟩
  have hal2 : Below w2.heap.size w2 (((w2.alloc (.cells #[.pointer (some ⟨b, 0, none⟩)] 25)).alloc (.cells #[.int .u8 a] 48)).alloc (.cells #[.int .i64 0] 3)) := (((Below.refl _ _).alloc (Nat.le_refl _) _).alloc (by simp) _).alloc (by simp; omega) _
  have HA0 : Hid (RowAt (((w2.alloc (.cells #[.pointer (some ⟨b, 0, none⟩)] 25)).alloc (.cells #[.int .u8 a] 48)).alloc (.cells #[.int .i64 0] 3)) w2.heap.size 25 [.pointer (some ⟨b, 0, none⟩)]) := Lib.hid (((RowAt.new w2 25 [.pointer (some ⟨b, 0, none⟩)]).alloc _).alloc _)
  have HA1 : Hid (RowAt (((w2.alloc (.cells #[.pointer (some ⟨b, 0, none⟩)] 25)).alloc (.cells #[.int .u8 a] 48)).alloc (.cells #[.int .i64 0] 3)) (w2.heap.size + 1) 48 [.int .u8 a]) := Lib.hid (by
    have := (RowAt.new (w2.alloc (.cells #[.pointer (some ⟨b, 0, none⟩)] 25)) 48 [.int .u8 a]).alloc (.cells #[.int .i64 0] 3)
    rwa [show (w2.alloc (.cells #[.pointer (some ⟨b, 0, none⟩)] 25)).heap.size = w2.heap.size + 1 from by simp] at this)
  have HA2 : Hid (RowAt (((w2.alloc (.cells #[.pointer (some ⟨b, 0, none⟩)] 25)).alloc (.cells #[.int .u8 a] 48)).alloc (.cells #[.int .i64 0] 3)) (w2.heap.size + 1 + 1) 3 [.int .i64 0]) := Lib.hid (by
    have := RowAt.new ((w2.alloc (.cells #[.pointer (some ⟨b, 0, none⟩)] 25)).alloc (.cells #[.int .u8 a] 48)) 3 [.int .i64 0]
    rwa [show ((w2.alloc (.cells #[.pointer (some ⟨b, 0, none⟩)] 25)).alloc (.cells #[.int .u8 a] 48)).heap.size = w2.heap.size + 1 + 1 from by simp] at this)
  have hz5 : (((w2.alloc (.cells #[.pointer (some ⟨b, 0, none⟩)] 25)).alloc (.cells #[.int .u8 a] 48)).alloc (.cells #[.int .i64 0] 3)).heap.size = w2.heap.size + 3 := by simp
  have R0 := Lib.hid (HR0.out.next hal2)
  have R1 := Lib.hid (HR1.out.next hal2)
  have HB5 := Lib.hid (bt HAL.out hal2)
  have HS5 := Lib.hid (HS.out.next hal2)
  clear hal2 c0 HR0 HR1 HAL HS
  gi_wp2_with fail
  generalize ((w2.alloc (.cells #[.pointer (some ⟨b, 0, none⟩)] 25)).alloc (.cells #[.int .u8 a] 48)).alloc (.cells #[.int .i64 0] 3) = w5 at *
  obtain ⟨b0, hb0⟩ : ∃ b, b = w.heap.size := ⟨_, rfl⟩
  obtain ⟨bm, hbm⟩ : ∃ b, b = w2.heap.size := ⟨_, rfl⟩
  have hbb : bm = b0 + 2 := by rw [hbm, hb0]; exact HZ2.out
  rw [← hbm] at HA0 HA1 HA2 hz5 ⊢
  rw [← hb0] at R0 R1 hbl ⊢
  have HB5' : Hid (Below b0 w w5) := Lib.hid (by rw [hb0]; exact HB5.out)
  have hbz := Lib.hid hb0
  clear hbm hb0 HB5
  obtain ⟨c, hsp, hcn⟩ := HS5.out
  have HC0 : Hid (c a = 0 → FinS N a ⟨2, f, c, last⟩) := Lib.hid (fun h i _ h2 => cnt_zero f a N ((hcn.ct a ha).symm.trans h) i h2)
  have HSP := Lib.hid hsp
  have HCN := Lib.hid hcn
  have HBB := Lib.hid hbb
  have HZ5 := Lib.hid hz5
  clear hsp hcn
  refine wpIn_range_own (gf := 32) (lb := #[.pointer (some ⟨bm, 0, none⟩), .pointer (some ⟨bm + 1, 0, none⟩), .pointer (some ⟨bm + 1 + 1, 0, none⟩)]) rfl (enters_of Try.func32 (by kernel_rfl) rfl) (encs := encN) (fun _ => rfl)
    (I := fun s W => SpAt W b N s.last s.f s.c ∧ Cn N s.f s.c ∧ RowAt W b0 25 [.pointer (some ⟨b, 0, none⟩)] ∧ RowAt W (b0 + 1) 48 [.int .u8 t] ∧ Fr (· = b) w W ∧ s.last = last ∧ 2 ≤ s.k ∧ s.k ≤ N ∧ s.f = turnF s.k f a t)
    (fun _ _ => False)
    (of_iter 5 w5 b bm (bm + 1) (bm + 1 + 1) N a 0 (· = b) HA0.out HA1.out HA2.out (fun k hk => by omega) hN ha (by omega) (by omega) _ (fun s W h => h.1) (fun s x s' => s'.k = x + 1) (fun s x s' h => h) ⟨2, f, c, last⟩ rfl HC0.out)
    (fun W W' h => h.keep (by simp) (by simp)) ?hIs ?hIxs ?hIp ?hIxp ?h0 (fun A B C h k => Fr.trans h k) (fun W o hl => (Fr.refl _ W).put _ o (.inr rfl))
    (fun x => { tmps := #[.pointer (some ⟨b, 0, none⟩), .int .u8 a, .int .u8 t, .pointer (some ⟨b0, 0, none⟩), undef, .pointer (some ⟨b0 + 1, 0, none⟩), .int .i64 x, .pointer (some ⟨b, 0, none⟩), .int .u8 a, .func (.func 32) #[] #[.pointer (some ⟨bm, 0, none⟩), .pointer (some ⟨bm + 1, 0, none⟩), .pointer (some ⟨bm + 1 + 1, 0, none⟩)], .int .i64 x, undef, undef, undef, undef], defers := [] }) ?assign ?body ?done ?stop
  case assign =>
    clear hbb hz5
    intro x W K hK
    gi_wp2
    exact hK
  case hIs =>
    rintro s W W' ⟨h1, h2, h3, h4, h5, h6⟩ hf
    exact ⟨h1.fr hf id, h2, h3.fr hf id, h4.fr hf id, h5.trans (hf.mono (fun _ _ h => h.elim)), h6⟩
  case hIxs => exact fun _ _ _ h _ => h
  case hIxp => exact fun _ _ _ _ _ _ _ h => h
  case hIp =>
    rintro s W k o hk1 hk2 hk3 ⟨h1, h2, h3, h4, h5, h6⟩
    have hf : Fr (fun j => j = k) W (W.putObj k o) := (Fr.refl (fun j => j = k) W).put k o rfl
    have hz := hbz.out
    refine ⟨h1.fr hf (by omega), h2, h3.fr hf (by omega), h4.fr hf (by omega), ?_, h6⟩
    refine ⟨h5.os, h5.tape, h5.output, ?_, fun j hj hn => ?_⟩
    · have := h5.size; simpa using this
    · exact (hf.block j (by have := h5.size; omega) (by omega)).trans (h5.block j hj hn)
  case h0 =>
    intro r
    have hal : Below w5.heap.size w5 ((w5.alloc (.deferred (some []))).alloc (.loop r)) := ((Below.refl _ _).alloc (Nat.le_refl _) _).alloc (by simp) _
    exact ⟨HSP.out.next hal, HCN.out, R0.out.next hal, R1.out.next hal, Fr.of_below (hbz.out ▸ HB5'.out.trans (hal.mono (by omega))), rfl, Nat.le_refl _, hN0, (turnF_two f a t).symm⟩
  case body =>
    rintro s x W hlt ⟨h1, h2, h3, h4, h5, h6, h7, h8, h9⟩ ⟨ho1, ho2, ho3, ho4⟩
    have c0 : W.cell? ⟨b0, 0, none⟩ = some (.pointer (some ⟨b, 0, none⟩)) := h3.cell 0
    have c1 : W.cell? ⟨b0 + 1, 0, none⟩ = some (.int .u8 t) := h4.cell 0
    have HP := Lib.hid (put_si W b N s.last s.f ⟨_, h1, h2⟩ hN x t ho2 ht)
    have H3 := Lib.hid h3
    have H4 := Lib.hid h4
    have H5 := Lib.hid h5
    have H6 := Lib.hid h6
    have H9 := Lib.hid h9
    have HO3 := Lib.hid ho3
    have HO4 := Lib.hid ho4
    clear h1 h2 h3 h4 h5 h6 h9 ho3 ho4 HSP HCN HC0 hbb hz5
    gi_wp2_with fail
    refine ⟨trivial, CallsIn.inRound _ ((callsIn_wide.2 HP.out).mono ?_)⟩
    rintro e W' ⟨rfl, hs', hf⟩
    have HS' := Lib.hid hs'
    have HF := Lib.hid hf
    clear hs' hf c0 c1
    gi_wp2_with fail
    have e1 := HBB.out
    have e2 := HZ5.out
    obtain ⟨c', hsp', hcn'⟩ := HS'.out
    refine ⟨HF.out.keep (by omega) (by omega), HF.out.mono (fun k _ e => .inl e), ⟨x + 1, upd s.f x t, c', s.last⟩, rfl, hsp', hcn', H3.out.fr HF.out (by omega), H4.out.fr HF.out (by omega), H5.out.trans HF.out, H6.out, by show 2 ≤ x + 1; omega, ho2, ?_⟩
    show upd s.f x t = turnF (x + 1) f a t
    have h9 := H9.out
    have h3 := HO3.out
    have h4 := HO4.out
    rw [h9] at h3 h4 ⊢
    exact turnF_next f a t s.k x h7 ho1 h3 h4
  case done =>
    rintro s W hF ⟨h1, h2, h3, h4, h5, h6, h7, h8, h9⟩ hK
    have HS1 : Hid (SI W b N last (turnF N f a t)) := Lib.hid (by
      have e9 := turnF_end f a t s.k N h8 (fun i k1 k2 => h9 ▸ hF i k1 k2)
      rw [← e9, ← h9, ← h6]
      exact ⟨_, h1, h2⟩)
    have H5 := Lib.hid h5
    have HK := Lib.hid hK
    clear h1 h2 h3 h4 h5 h6 h9 hF hK HSP HCN HC0 hbb hz5
    gi_wp2
    have e1 := HBB.out
    have e2 := HZ5.out
    refine ⟨by simp, .inl ⟨_, _, rfl, run_takeDeferred HK.out, ?_⟩⟩
    have hp : Fr (fun k => k = w5.heap.size) W (W.putObj w5.heap.size (.deferred none)) := (Fr.refl (fun k => k = w5.heap.size) _).put _ _ rfl
    refine ⟨_, results_none rfl _ _ _, rfl, HS1.out.fr hp (by omega), ?_⟩
    have h5 := H5.out
    have hz := hbz.out
    refine ⟨h5.os, h5.tape, h5.output, ?_, fun j hj hn => ?_⟩
    · have := h5.size; simpa using this
    · exact (hp.block j (by have := h5.size; omega) (by omega)).trans (h5.block j hj hn)
  case stop => exact fun _ _ h _ => h.elim
end Go.Proofs.Ytbkbfkaklhojgaa
