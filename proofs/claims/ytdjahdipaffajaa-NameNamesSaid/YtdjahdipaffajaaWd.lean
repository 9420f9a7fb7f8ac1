/- Moves. -/
import Derived.Test.YtdjahdipaffajaaWc
namespace Go.Proofs.Ytdjahdipaffajaa
open Go.RowKit Go.Shelf
attribute [local go_sem] Oper.semAt_some
set_option maxHeartbeats 4000000 in
theorem moves_any (w : World) (a : Option Addr) (n cap : Nat) (l : List (Int × Int)) (hs : UpsAt w a n l) (hn : n ≤ 1000) (ino to : Int) :
    Calls Try.prog 12 #[.slice a n cap, .int .i64 ino, .int .i64 to] w fun e w' => e = .returned (.int .i64 (movE (goUp l to) ino)) ∧ Below w.heap.size w w' := by
  refine (callsIn_wide (n := 5)).1 ?_
  have hal : Below w.heap.size w (((w.alloc (.cells #[.int .i64 ino] 3)).alloc (.cells #[.int .i64 0] 24)).alloc (.cells #[.bool false] 4)) := (((Below.refl _ _).alloc (Nat.le_refl _) _).alloc (by simp) _).alloc (by simp; omega) _
  have HS := Lib.hid (hs.next hal)
  have HAL := Lib.hid hal
  have HLN : Hid (l.length ≤ 1000) := Lib.hid (by rw [hs.1]; exact hn)
  have HR0 : Hid (RowAt (((w.alloc (.cells #[.int .i64 ino] 3)).alloc (.cells #[.int .i64 0] 24)).alloc (.cells #[.bool false] 4)) w.heap.size 3 [.int .i64 ino]) := Lib.hid (((RowAt.new w 3 [.int .i64 ino]).alloc _).alloc _)
  have HR1 : Hid (RowAt (((w.alloc (.cells #[.int .i64 ino] 3)).alloc (.cells #[.int .i64 0] 24)).alloc (.cells #[.bool false] 4)) (w.heap.size + 1) 24 [.int .i64 0]) := Lib.hid (by
    have := (RowAt.new (w.alloc (.cells #[.int .i64 ino] 3)) 24 [.int .i64 0]).alloc (.cells #[.bool false] 4)
    rwa [show (w.alloc (.cells #[.int .i64 ino] 3)).heap.size = w.heap.size + 1 from by simp] at this)
  have HR2 : Hid (RowAt (((w.alloc (.cells #[.int .i64 ino] 3)).alloc (.cells #[.int .i64 0] 24)).alloc (.cells #[.bool false] 4)) (w.heap.size + 1 + 1) 4 [.bool false]) := Lib.hid (by
    have := RowAt.new ((w.alloc (.cells #[.int .i64 ino] 3)).alloc (.cells #[.int .i64 0] 24)) 4 [.bool false]
    rwa [show ((w.alloc (.cells #[.int .i64 ino] 3)).alloc (.cells #[.int .i64 0] 24)).heap.size = w.heap.size + 1 + 1 from by simp] at this)
  clear hs hal
  refine callsIn_of_wp_marks Try.func12 rfl trivial ?_ rfl
  simp only [Try.ntmps12, List.size_toArray, List.length_cons, List.length_nil, Nat.reduceAdd, Nat.reduceSub, Array.replicate_succ, Array.replicate_zero, List.push_toArray, List.append_toArray, List.nil_append, List.cons_append]
  gi_wp2_with fail
  generalize ((w.alloc (.cells #[.int .i64 ino] 3)).alloc (.cells #[.int .i64 0] 24)).alloc (.cells #[.bool false] 4) = w3 at *
  refine ⟨trivial, (callsIn_wide.2 (parents_any w3 a n cap l HS.out hn)).mono ?_⟩
  rintro e w4 ⟨mb, rfl, hmp, hmb, hb4⟩
  have HB4 := Lib.hid (bt HAL.out hb4)
  have R0 := HR0.out.next hb4
  have R1 := HR1.out.next hb4
  have R2 := HR2.out.next hb4
  have hmb3 : w.heap.size + 3 ≤ mb := by have := HR2.out.lt; omega
  have HMP := Lib.hid hmp
  have HR0' := Lib.hid R0
  have HR1' := Lib.hid R1
  have HR2' := Lib.hid R2
  clear hmp hb4 R0 R1 R2 hmb
  gi_wp2_with fail
  refine ⟨trivial, (callsIn_wide.2 (above_any w4 (some mb) to)).mono ?_⟩
  rintro e w5' ⟨rfl, rfl⟩
  have hal2 : Below w4.heap.size w4 ((w4.alloc (.cells #[.map (some mb)] 48)).alloc (.cells #[.int .i64 to] 3)) := ((Below.refl _ _).alloc (Nat.le_refl _) _).alloc (by simp) _
  have HRM : Hid (RowAt ((w4.alloc (.cells #[.map (some mb)] 48)).alloc (.cells #[.int .i64 to] 3)) w4.heap.size 48 [.map (some mb)]) := Lib.hid ((RowAt.new w4 48 [.map (some mb)]).alloc _)
  have HRI : Hid (RowAt ((w4.alloc (.cells #[.map (some mb)] 48)).alloc (.cells #[.int .i64 to] 3)) (w4.heap.size + 1) 3 [.int .i64 to]) := Lib.hid (by
    have := RowAt.new (w4.alloc (.cells #[.map (some mb)] 48)) 3 [.int .i64 to]
    rwa [show (w4.alloc (.cells #[.map (some mb)] 48)).heap.size = w4.heap.size + 1 from by simp] at this)
  have HMP5 := Lib.hid (HMP.out.next hal2)
  have R0 := Lib.hid (HR0'.out.next hal2)
  have R1 := Lib.hid (HR1'.out.next hal2)
  have R2 := Lib.hid (HR2'.out.next hal2)
  have HB5 := Lib.hid (bt HB4.out hal2)
  have hz5 : ((w4.alloc (.cells #[.map (some mb)] 48)).alloc (.cells #[.int .i64 to] 3)).heap.size = w4.heap.size + 2 := by simp
  have hml := HMP.out.lt
  have hz4 := HR2'.out.lt
  clear hal2 HMP HR0' HR1' HR2'
  gi_wp2_with fail
  generalize (w4.alloc (.cells #[.map (some mb)] 48)).alloc (.cells #[.int .i64 to] 3) = w5 at *
  obtain ⟨b0, hb0⟩ : ∃ b, b = w.heap.size := ⟨_, rfl⟩
  obtain ⟨bm, hbm⟩ : ∃ b, b = w4.heap.size := ⟨_, rfl⟩
  rw [← hbm] at HRM HRI hz5 hml hz4 ⊢
  rw [← hb0] at R0 R1 R2 hmb3 hz4 ⊢
  have HB5' : Hid (Below b0 w w5) := Lib.hid (by rw [hb0]; exact HB5.out)
  have hz5a : bm + 2 ≤ w5.heap.size := by omega
  have hz5b : w5.heap.size ≤ bm + 2 := by omega
  have hbz := Lib.hid hb0
  clear hz5
  clear hbm hb0 HB4 HB5 HAL HS HR0 HR1 HR2
  refine wpIn_range_own (gf := 27) (lb := #[.pointer (some ⟨bm, 0, none⟩), .pointer (some ⟨bm + 1, 0, none⟩)]) rfl (enters_of Try.func27 (by kernel_rfl) rfl) (encs := encU) (fun _ => rfl)
    (I := fun s W => RowAt W b0 3 [.int .i64 ino] ∧ RowAt W (b0 + 1) 24 [.int .i64 0] ∧ RowAt W (b0 + 1 + 1) 4 [.bool (decide (ino ∈ s.1))] ∧ Below b0 w W ∧ s.2 = 0)
    (fun c W => c = .ret ∧ RowAt W b0 3 [.int .i64 ino] ∧ RowAt W (b0 + 1) 24 [.int .i64 (goUp l to).2] ∧ (goUp l to).2 ≠ 0 ∧ Below b0 w W)
    (above_iter 5 w5 l to bm (bm + 1) mb (fun k => k = b0 ∨ k = b0 + 1 ∨ k = b0 + 1 + 1) HRM.out HMP5.out HRI.out (fun k hk => by omega) (by omega) (by omega) _)
    (fun W W' h => h.keep (by omega) (by omega)) ?hIs ?hIxs ?hIp ?hIxp ?h0 (fun A B C h k => Fr.trans h k) (fun W o hl => (Fr.refl _ W).put _ o (.inr rfl))
    (fun x => { tmps := #[.slice a n cap, .int .i64 ino, .int .i64 to, undef, .pointer (some ⟨b0, 0, none⟩), undef, .pointer (some ⟨b0 + 1, 0, none⟩), .pointer (some ⟨b0 + 1 + 1, 0, none⟩), .int .i64 x.1, .int .i64 x.2, .slice a n cap, .map (some mb), .int .i64 to, .func (.func 27) #[] #[.pointer (some ⟨bm, 0, none⟩), .pointer (some ⟨bm + 1, 0, none⟩)], .int .i64 x.1, .int .i64 x.2, undef, undef, undef, undef, undef, undef, undef, undef, undef, undef], defers := [] }) ?assign ?body ?done ?stop
  case assign =>
    intro x W K hK
    gi_wp2
    exact hK
  case hIs =>
    rintro s W W' ⟨h0, h1, h2, h3, h4⟩ hf
    have hz := h3.size
    have hzz := h2.lt
    exact ⟨h0.fr hf (by omega), h1.fr hf (by omega), h2.fr hf (by omega), Below.fr h3 hf (by omega) (by omega), h4⟩
  case hIxs =>
    rintro c W W' ⟨rfl, h0, h1, h2, h3⟩ hf
    have hzz := h1.lt
    exact ⟨rfl, h0.fr hf (by omega), h1.fr hf (by omega), h2, Below.fr h3 hf (by omega) (by omega)⟩
  case hIp =>
    rintro s W k o hk1 hk2 hk3 ⟨h0, h1, h2, h3, h4⟩
    have hf : Fr (fun j => j = k) W (W.putObj k o) := (Fr.refl (fun j => j = k) W).put k o rfl
    have hzz := h2.lt
    exact ⟨h0.fr hf (by omega), h1.fr hf (by omega), h2.fr hf (by omega), Below.fr h3 hf (by omega) (by omega), h4⟩
  case hIxp =>
    rintro c W k o hk1 hk2 hk3 ⟨rfl, h0, h1, h2, h3⟩
    have hf : Fr (fun j => j = k) W (W.putObj k o) := (Fr.refl (fun j => j = k) W).put k o rfl
    have hzz := h1.lt
    exact ⟨rfl, h0.fr hf (by omega), h1.fr hf (by omega), h2, Below.fr h3 hf (by omega) (by omega)⟩
  case h0 =>
    intro r
    have hal : Below w5.heap.size w5 ((w5.alloc (.deferred (some []))).alloc (.loop r)) := ((Below.refl _ _).alloc (Nat.le_refl _) _).alloc (by simp) _
    exact ⟨R0.out.next hal, R1.out.next hal, R2.out.next hal, HB5'.out.trans (hal.mono (by omega)), rfl⟩
  case body =>
    rintro ⟨acc, sc⟩ ⟨x1, x2⟩ W hlt ⟨h0, h1, h2, h3, _⟩ ⟨ho1, hol, ho2⟩
    have c0 : W.cell? ⟨b0, 0, none⟩ = some (.int .i64 ino) := h0.cell 0
    have c1 : W.cell? ⟨b0 + 1, 0, none⟩ = some (.int .i64 0) := h1.cell 0
    have c2 : W.cell? ⟨b0 + 1 + 1, 0, none⟩ = some (.bool (decide (ino ∈ acc))) := h2.cell 0
    have f1 := h1.free 0
    have f2 := h2.free 0
    have hzz := h2.lt
    have H0 := Lib.hid h0
    have H1 := Lib.hid h1
    have H2 := Lib.hid h2
    have H3 := Lib.hid h3
    clear h0 h1 h2 h3 hol ho1
    rcases ho2 with ho2 | ⟨hR, ho2⟩
    · simp only at ho2
      subst ho2
      have fin : ∀ (act : Act) (bb : Bool), bb = decide (ino ∈ acc ++ [x1]) → rfPost w5.heap.size (fun W W' => Fr (fun k => (k = b0 ∨ k = b0 + 1 ∨ k = b0 + 1 + 1) ∨ k = w5.heap.size + 1) W W') (fun (s : List Int × Int) W => RowAt W b0 3 [.int .i64 ino] ∧ RowAt W (b0 + 1) 24 [.int .i64 0] ∧ RowAt W (b0 + 1 + 1) 4 [.bool (decide (ino ∈ s.1))] ∧ Below b0 w W ∧ s.2 = 0) (nxtU (acc, sc) (x1, 0)) (fun c W => c = .ret ∧ RowAt W b0 3 [.int .i64 ino] ∧ RowAt W (b0 + 1) 24 [.int .i64 (goUp l to).2] ∧ (goUp l to).2 ≠ 0 ∧ Below b0 w W) W .normal act (W.setCell ⟨b0 + 1 + 1, 0, none⟩ (.bool bb)) := by
        intro act bb hbb
        have hf : Fr (fun k => k = b0 + 1 + 1) W (W.setCell ⟨b0 + 1 + 1, 0, none⟩ (.bool bb)) := (Fr.refl (fun k => k = b0 + 1 + 1) W).setCell rfl _
        refine ⟨hf.keep (by omega) (by omega), hf.mono fun k _ e => .inl (.inr (.inr e)), (acc ++ [x1], 0), by simp [nxtU], H0.out.fr hf (by omega), H1.out.fr hf (by omega), ?_, Below.fr H3.out hf (by omega) (by omega), rfl⟩
        have := H2.out.set 0 (.bool bb)
        rw [hbb] at this ⊢
        exact this
      have FIN := Lib.hid fin
      clear fin
      by_cases hin : ino ∈ acc
      · rw [show decide (ino ∈ acc) = true from by simp [hin]] at c2
        gi_wp2
        exact FIN.out _ true (by simp [hin])
      · rw [show decide (ino ∈ acc) = false from by simp [hin]] at c2
        gi_wp2
        refine FIN.out _ _ ?_
        by_cases e : x1 = ino
        · subst e; simp
        · have e2 : ¬ ino = x1 := fun h => e h.symm
          simp [hin, e, e2]
    · simp only at hR ho2
      have hx0 : (x2 == 0) = false := by rcases ho2 with rfl | rfl <;> rfl
      have hx1 : (x2 != 0) = true := by rcases ho2 with rfl | rfl <;> rfl
      have HRR := Lib.hid hR
      have HO2 := Lib.hid ho2
      clear hR ho2
      gi_wp2
      have hf : Fr (fun k => k = b0 + 1) W (W.setCell ⟨b0 + 1, 0, none⟩ (.int .i64 x2)) := (Fr.refl (fun k => k = b0 + 1) W).setCell rfl _
      refine ⟨hf.keep (by omega) (by omega), rfl, H0.out.other _ _ (by omega), ?_, ?_, Below.fr H3.out hf (by omega) (by omega)⟩
      · have := H1.out.set 0 (.int .i64 x2)
        rw [HRR.out]
        exact this
      · rw [HRR.out]; show x2 ≠ 0; rcases HO2.out with rfl | rfl <;> decide
  case done =>
    rintro s W hF ⟨h0, h1, h2, h3, h4⟩ hK
    have c2 : W.cell? ⟨b0 + 1 + 1, 0, none⟩ = some (.bool (decide (ino ∈ s.1))) := h2.cell 0
    have c1 : W.cell? ⟨b0 + 1, 0, none⟩ = some (.int .i64 0) := h1.cell 0
    have f1 := h1.free 0
    have hzz := h2.lt
    have fin : ∀ z : Int, z = movE (goUp l to) ino → ∀ tm : Array Value, tm[6]?.getD undef = .pointer (some ⟨b0 + 1, 0, none⟩) → LeavesInM Fence.wide 5 Try.prog Try.f12 tm (fun e w' => e = .returned (.int .i64 (movE (goUp l to) ino)) ∧ Below w.heap.size w w') [] FrameMode.returning ((W.setCell ⟨b0 + 1, 0, none⟩ (.int .i64 z)).putObj w5.heap.size (.deferred none)) := by
      intro z hz tm htm
      have hf : Fr (fun k => b0 ≤ k) W ((W.setCell ⟨b0 + 1, 0, none⟩ (.int .i64 z)).putObj w5.heap.size (.deferred none)) := ((Fr.refl (fun k => b0 ≤ k) W).setCell (Nat.le_succ _) _).put _ _ (by omega)
      have hp : Fr (fun k => k = w5.heap.size) (W.setCell ⟨b0 + 1, 0, none⟩ (.int .i64 z)) ((W.setCell ⟨b0 + 1, 0, none⟩ (.int .i64 z)).putObj w5.heap.size (.deferred none)) := (Fr.refl (fun k => k = w5.heap.size) _).put _ _ rfl
      have d1 := ((h1.set 0 (.int .i64 z)).fr hp (by omega)).cell 0
      simp only [List.set_cons_zero, List.getElem?_cons_zero] at d1
      refine ⟨.int .i64 z, by simp [results, Try.results12, go_sem, htm, d1], ?_, ?_⟩
      · rw [hz]
      · exact hbz.out ▸ Below.fr h3 hf (by omega) (fun k hk => hk)
    have hk2 : ∀ z : Int, (W.setCell ⟨b0 + 1, 0, none⟩ (.int .i64 z)).heap[w5.heap.size]? = some (.deferred (some [])) := by
      intro z
      rw [Below.heap_setCell _ _ _ _ (by simp; omega)]; exact hK
    have FIN := Lib.hid fin
    have HK2 := Lib.hid hk2
    have HF := Lib.hid hF
    have H4 := Lib.hid h4
    clear h0 h1 h2 h3 hK hF h4 fin hk2
    by_cases hin : ino ∈ s.1
    · rw [show decide (ino ∈ s.1) = true from by simp [hin]] at c2
      have HIN := Lib.hid hin
      clear hin
      gi_wp2
      exact ⟨by simp, .inl ⟨_, _, rfl, run_takeDeferred (HK2.out _), FIN.out _ (by rw [← HF.out]; simp [movE, H4.out, HIN.out]) _ rfl⟩⟩
    · rw [show decide (ino ∈ s.1) = false from by simp [hin]] at c2
      have HIN := Lib.hid hin
      clear hin
      gi_wp2
      exact ⟨by simp, .inl ⟨_, _, rfl, run_takeDeferred (HK2.out _), FIN.out _ (by rw [← HF.out]; simp [movE, H4.out, HIN.out]) _ rfl⟩⟩
  case stop =>
    rintro c W ⟨rfl, h0, h1, h2, h3⟩ hK
    have H0 := Lib.hid h0
    have H1 := Lib.hid h1
    have H2 := Lib.hid h2
    have H3 := Lib.hid h3
    have HK := Lib.hid hK
    have hzz := h1.lt
    clear h0 h1 h2 h3 hK
    gi_wp2
    refine ⟨by simp, .inl ⟨_, _, rfl, run_takeDeferred HK.out, ?_⟩⟩
    have hf : Fr (fun k => b0 ≤ k) W (W.putObj w5.heap.size (.deferred none)) := (Fr.refl (fun k => b0 ≤ k) W).put _ _ (by omega)
    have hp : Fr (fun k => k = w5.heap.size) W (W.putObj w5.heap.size (.deferred none)) := (Fr.refl (fun k => k = w5.heap.size) _).put _ _ rfl
    have d1 := (H1.out.fr hp (by omega)).cell 0
    simp only [List.getElem?_cons_zero] at d1
    generalize W.putObj w5.heap.size (.deferred none) = V at *
    refine ⟨_, by simp [results, Try.results12, go_sem, d1]; rfl, ?_, ?_⟩
    · simp [movE, H2.out]
    · exact hbz.out ▸ Below.fr H3.out hf (by omega) (fun k hk => hk)
end Go.Proofs.Ytdjahdipaffajaa
