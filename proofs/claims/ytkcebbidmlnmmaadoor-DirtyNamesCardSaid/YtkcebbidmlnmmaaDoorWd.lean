/- Write. -/
import Derived.Test.YtkcebbidmlnmmaaDoorWc
import Derived.Lib.Strings
namespace Go.Proofs.YtkcebbidmlnmmaaDoor
open Go.RowKit
section
variable {P : Program} {w w' : World} {ops : Array Oper} {o : Oper} {a : Act} {K : Act → World → Prop} {Q : Exit → Act → World → Prop} {E : Prop}
theorem step_app {v y v' : Value} (hg : o.guard = none) (s x : Operand) (t ty : TypeId)
    (ho : o.op = .call { callee := .builtin .append, args := #[s, x], argTypes := #[t, t] }) (hty : o.type = ty) (hr : (Builtin.append_ #[t, t] ty #[v, y]).run P w = .ok v' w') (hs : a.eval s = v) (hx : a.eval x = y) (h : K (a.put o.dst v') w') :
    if Region.wanted o (yielded ops a.tmps) = true then Oper.wp P o a w K Q else E := by
  have hw : Region.wanted o (yielded ops a.tmps) = true := by simp [Region.wanted, hg]
  rw [if_pos hw]
  unfold Oper.wp execOp
  subst hty
  simp only [ho, resolve, invoke, builtin, Sem.run_bind, Sem.run_pure, Result.andThen_ok, List.map_toArray, List.map_cons, List.map_nil, hs, hx, hr]
  exact h
theorem step_look {t : TypeId} {u v r : Value} (m x : Operand) (ok : Bool) (hg : o.guard = none) (ho : o.op = .lookup t m x ok) (hr : (Instr.lookup t u v ok).run P w = .ok r w') (hm : a.eval m = u) (hx : a.eval x = v) (h : K (a.put o.dst r) w') :
    if Region.wanted o (yielded ops a.tmps) = true then Oper.wp P o a w K Q else E := by
  have hw : Region.wanted o (yielded ops a.tmps) = true := by simp [Region.wanted, hg]
  rw [if_pos hw]
  exact wp_look ho hm hx hr h
theorem step_upd {t : TypeId} {u v z : Value} (m x y : Operand) (hg : o.guard = none) (ho : o.op = .mapUpdate t m x y) (hr : (Instr.mapUpdate t u v z).run P w = .ok () w') (hm : a.eval m = u) (hx : a.eval x = v) (hy : a.eval y = z) (h : K (a.put o.dst undef) w') :
    if Region.wanted o (yielded ops a.tmps) = true then Oper.wp P o a w K Q else E := by
  have hw : Region.wanted o (yielded ops a.tmps) = true := by simp [Region.wanted, hg]
  rw [if_pos hw]
  exact wp_upd ho hm hx hy hr h
end
/-- What Write tells, and does. -/
def writeE (L : List Wr) (k a : Int) (t : ByteArray) : Int :=
  if k < 1 ∨ a < 0 then 1 else if 32768 < a ∨ 32768 - a < (t.size : Int) then 40 else if 65536 < tot L + t.size then 3 else 0
def writeL (L : List Wr) (k a : Int) (t : ByteArray) : List Wr := if writeE L k a t = 0 ∧ t.size ≠ 0 then L ++ [(k, a.toNat, t)] else L
theorem writeL_ok {L : List Wr} (h : Ok L) (k a : Int) (t : ByteArray) : Ok (writeL L k a t) := by
  unfold writeL
  split
  · rename_i hh
    obtain ⟨h1, h2⟩ := hh
    unfold writeE at h1
    split at h1
    · omega
    · split at h1
      · omega
      · split at h1
        · omega
        · refine ⟨fun p hp => ?_, by rw [tot_append]; simp [tot] at *; omega⟩
          rcases List.mem_append.1 hp with hp | hp
          · exact h.pt p hp
          · rw [List.mem_singleton.1 hp]
            exact ⟨h2, by simp only; omega⟩
  · exact h
theorem sub_one (j k : Int) (p : Pt) : sub j [(k, p)] = if j = k then [p] else [] := by
  unfold sub
  by_cases e : j = k
  · subst e; simp
  · rw [if_neg e]
    have : (k == j) = false := by simp; omega
    simp [this]
theorem str_nil (t : ByteArray) (h : t.size = 0) : t = ⟨#[]⟩ := by
  cases t with | mk d => simp [ByteArray.size] at h; rw [h]
attribute [local go_sem ↓] Go.wp_at_zero Go.wp_at_succ
theorem write_nil (w : World) (k a : Int) (t : ByteArray) : Calls Tryd.prog 14 #[.pointer none, .int .i64 k, .int .i64 a, .string t] w fun e w' => e = .returned (.int .i64 2) ∧ w' = w := by
  go_enter Tryd.func14, Tryd.ntmps14
  go_wp2_with fail
  all_goals refine bodyPost_ret (by simp [results, Tryd.results14, go_sem]; rfl) rfl ?_
  all_goals exact ⟨rfl, rfl⟩
set_option maxHeartbeats 2000000 in
theorem write_bad (w : World) (p b : Nat) (L : List Wr) (G : Int → Nat) (S : Nat → Prop) (h : Bm w p b L G S) (k a : Int) (t : ByteArray) (hb : writeE L k a t ≠ 0 ∨ t.size = 0) :
    Calls Tryd.prog 14 #[.pointer (some ⟨p, 0, none⟩), .int .i64 k, .int .i64 a, .string t] w fun e w' => e = .returned (.int .i64 (writeE L k a t)) ∧ w' = w := by
  have c1 := h.c1
  have htop := h.ok.top
  clear h
  unfold writeE at *
  generalize tot L = n at *
  by_cases h1 : k < 1
  · rw [if_pos (.inl h1)]
    have g1 : decide (k < 1) = true := by simpa using h1
    clear hb c1
    go_enter Tryd.func14, Tryd.ntmps14
    go_wp2_with fail
    all_goals refine bodyPost_ret (by simp [results, Tryd.results14, go_sem]; rfl) rfl ?_
    all_goals exact ⟨rfl, rfl⟩
  have g1 : decide (k < 1) = false := by simpa using h1
  by_cases h2 : a < 0
  · rw [if_pos (.inr h2)]
    have g2 : decide (a < 0) = true := by simpa using h2
    clear hb c1
    go_enter Tryd.func14, Tryd.ntmps14
    go_wp2_with fail
    all_goals refine bodyPost_ret (by simp [results, Tryd.results14, go_sem]; rfl) rfl ?_
    all_goals exact ⟨rfl, rfl⟩
  have g2 : decide (a < 0) = false := by simpa using h2
  rw [if_neg (show ¬ (k < 1 ∨ a < 0) by omega)] at hb ⊢
  by_cases h3 : 32768 < a
  · rw [if_pos (.inl h3)]
    have g3 : decide (a > 32768) = true := by simpa using h3
    have g3' : decide (32768 < a) = true := by simpa using h3
    clear hb c1
    go_enter Tryd.func14, Tryd.ntmps14
    go_wp2_with fail
    all_goals refine bodyPost_ret (by simp [results, Tryd.results14, go_sem]; rfl) rfl ?_
    all_goals exact ⟨rfl, rfl⟩
  have g3 : decide (a > 32768) = false := by simpa using h3
  have g3' : decide (32768 < a) = false := by simpa using h3
  have e3 : IntKind.i64.wrap (32768 - a) = 32768 - a := IntWalk.i64_in _ (by omega)
  by_cases h4 : 32768 - a < (t.size : Int)
  · rw [if_pos (.inr h4)]
    have g4 : decide ((t.size : Int) > 32768 - a) = true := by simpa using h4
    have g4' : decide (32768 - a < (t.size : Int)) = true := by simpa using h4
    clear hb c1
    go_enter Tryd.func14, Tryd.ntmps14
    go_wp2_with fail
    all_goals refine bodyPost_ret (by simp [results, Tryd.results14, go_sem]; rfl) rfl ?_
    all_goals exact ⟨rfl, rfl⟩
  have g4 : decide ((t.size : Int) > 32768 - a) = false := by simpa using h4
  have g4' : decide (32768 - a < (t.size : Int)) = false := by simpa using h4
  rw [if_neg (show ¬ (32768 < a ∨ 32768 - a < (t.size : Int)) by omega)] at hb ⊢
  have e4 : IntKind.i64.wrap (65536 - (n : Int)) = 65536 - (n : Int) := IntWalk.i64_in _ (by omega)
  by_cases h5 : 65536 < n + t.size
  · rw [if_pos h5]
    have g5 : decide ((t.size : Int) > 65536 - (n : Int)) = true := by simp; omega
    have g5' : decide (65536 - (n : Int) < (t.size : Int)) = true := by simp; omega
    clear hb
    go_enter Tryd.func14, Tryd.ntmps14
    go_wp2_with fail
    all_goals refine bodyPost_ret (by simp [results, Tryd.results14, go_sem]; rfl) rfl ?_
    all_goals exact ⟨rfl, rfl⟩
  have g5 : decide ((t.size : Int) > 65536 - (n : Int)) = false := by simp; omega
  have g5' : decide (65536 - (n : Int) < (t.size : Int)) = false := by simp; omega
  rw [if_neg h5] at hb ⊢
  have h0 : t.size = 0 := by omega
  have ht := str_nil t h0
  subst ht
  go_enter Tryd.func14, Tryd.ntmps14
  go_wp2_with fail
  all_goals refine bodyPost_ret (by simp [results, Tryd.results14, go_sem]; rfl) rfl ?_
  all_goals exact ⟨rfl, rfl⟩
set_option maxHeartbeats 4000000 in
set_option maxRecDepth 20000 in
theorem write_good (w : World) (p b : Nat) (L : List Wr) (G : Int → Nat) (S : Nat → Prop) (h : Bm w p b L G S) (k a : Int) (t : ByteArray) (hb : writeE L k a t = 0 ∧ t.size ≠ 0) :
    Calls Tryd.prog 14 #[.pointer (some ⟨p, 0, none⟩), .int .i64 k, .int .i64 a, .string t] w fun e w' => e = .returned (.int .i64 0) ∧ ∃ G', Bm w' p b (L ++ [(k, a.toNat, t)]) G' (fun i => S i ∨ w.heap.size ≤ i) ∧ Fr S w w' := by
  have hok : Ok (L ++ [(k, a.toNat, t)]) := by have := writeL_ok h.ok k a t; unfold writeL at this; rwa [if_pos hb] at this
  have htop := h.ok.top
  obtain ⟨hb1, hb2⟩ := hb
  have hbn : ¬ (k < 1 ∨ a < 0) ∧ ¬ (32768 < a ∨ 32768 - a < (t.size : Int)) ∧ ¬ 65536 < tot L + t.size := by
    unfold writeE at hb1
    split at hb1
    · omega
    · split at hb1
      · omega
      · split at hb1
        · omega
        · exact ⟨by assumption, by assumption, by assumption⟩
  obtain ⟨n1, n2, n3⟩ := hbn
  have hsp := h.sp
  have hrow := h.row
  have hb0 : Below w.heap.size w w.drew := (Below.refl _ _).drew
  obtain ⟨A, c, A', c', w1, w2, G', hlk, r1, r2, m2, f2, hq⟩ := (h.mr.next hb0).push k (a.toNat, t) (Nat.le_trans (h.ok.sublen k) (by omega))
  obtain ⟨q1, q2⟩ := hq p 61 _ (hrow.next hb0) (by decide)
  have c0 := h.c0
  have c1 := h.c1
  have hpl := hrow.lt
  have d1 : w2.cell? ⟨p, 1, none⟩ = some (.int .i64 (tot L : Int)) := q2.cell 1
  have k1 : w1.cell? ⟨p, 0, none⟩ = some (.map (some b)) := q1.cell 0
  have d2 : w2.frozen? ⟨p, 1, none⟩ = false := q2.free 1
  have m3 := m2.cell q2 (by decide) 1 (.int .i64 ((tot L : Int) + (t.size : Int)))
  have q3 := q2.set 1 (.int .i64 ((tot L : Int) + (t.size : Int)))
  have hP : Hid (∃ G', Bm (w2.setCell ⟨p, 1, none⟩ (.int .i64 ((tot L : Int) + (t.size : Int)))) p b (L ++ [(k, a.toNat, t)]) G' (fun i => S i ∨ w.heap.size ≤ i) ∧ Fr S w (w2.setCell ⟨p, 1, none⟩ (.int .i64 ((tot L : Int) + (t.size : Int))))) := Lib.hid
    ⟨G', ⟨by
      have e : (tot (L ++ [(k, a.toNat, t)]) : Int) = (tot L : Int) + (t.size : Int) := by rw [tot_append]; simp [tot]
      rw [e]; exact q3, m3.ext fun j => by
        rw [sub_append, sub_one]
        split
        · rename_i e; rw [e]
        · simp, hok, .inl hsp⟩, (Fr.of_below hb0).trans (f2.setCell hsp _)⟩
  have HL0 := Lib.hid (hlk w.drew (Below.refl _ _))
  have HL1 := Lib.hid (hlk (w.alloc (.cells #[.int .i64 (a.toNat : Int), .string t] 58)).drew (bA (Below.refl _ _) _))
  have HR1 : Hid ((Builtin.append_ #[49, 49] 49 #[.slice A (sub k L).length c, .slice (some ⟨w.heap.size, 0, none⟩) 1 1]).run Tryd.prog (w.alloc (.cells #[.int .i64 (a.toNat : Int), .string t] 58)).drew = .ok (.slice A' ((sub k L).length + 1) c') w1) := Lib.hid r1
  have HR2 := Lib.hid r2
  have k0 : (w.alloc (.cells #[.int .i64 (a.toNat : Int), .string t] 58)).cell? ⟨p, 0, none⟩ = some (.map (some b)) := (((Below.refl w.heap.size w).alloc (Nat.le_refl _) (.cells #[.int .i64 (a.toNat : Int), .string t] 58)).cell (p := ⟨p, 0, none⟩) hpl).trans c0
  have ha : ((a.toNat : Nat) : Int) = a := by omega
  rw [ha] at HL1 HR1 k0
  generalize tot L = n at *
  generalize (sub k L).length + 1 = N1 at *
  generalize (sub k L).length = N0 at *
  clear hlk r1 r2 m2 f2 hq q1 q2 m3 q3 h hrow hok hb1 hb0 hsp
  have hts : t.toList.isEmpty = false := by
    rw [Lib.toList_data]
    cases h : t.data.toList with
    | nil => exact absurd (show t.size = 0 by rw [ByteArray.size, ← Array.length_toList, h]; rfl) hb2
    | cons _ _ => rfl
  have g1 : decide (k < 1) = false := by simp; omega
  have g2 : decide (a < 0) = false := by simp; omega
  have g3 : decide (a > 32768) = false := by simp; omega
  have g3' : decide (32768 < a) = false := by simp; omega
  have e3 : IntKind.i64.wrap (32768 - a) = 32768 - a := IntWalk.i64_in _ (by omega)
  have g4 : decide ((t.size : Int) > 32768 - a) = false := by simp; omega
  have g4' : decide (32768 - a < (t.size : Int)) = false := by simp; omega
  have e4 : IntKind.i64.wrap (65536 - (n : Int)) = 65536 - (n : Int) := IntWalk.i64_in _ (by omega)
  have g5 : decide ((t.size : Int) > 65536 - (n : Int)) = false := by simp; omega
  have g5' : decide (65536 - (n : Int) < (t.size : Int)) = false := by simp; omega
  have e6 : IntKind.i64.wrap ((n : Int) + (t.size : Int)) = (n : Int) + (t.size : Int) := IntWalk.i64_in _ (by omega)
  have hq : ∀ (w : World) (r : Option Nat), (binOp .eql 59 (.map r) (.map none)).run Tryd.prog w = .ok (.bool r.isNone) w := fun w r => run_eql_map_nil w 59 3 49 r Tryd.underlying59
  clear n1 n2 n3 ha hb2 htop
  go_enter Tryd.func14, Tryd.ntmps14
  go_wp2_with fail
  have hl0 := HL0.out
  have hl1 := HL1.out
  have hr2 := HR2.out
  go_region_law (first
    | (refine step_app rfl (.tmp 60) (.tmp 64) 49 49 rfl rfl HR1.out (by rfl) (by rfl) ?_)
    | (refine step_upd (.tmp 53) (.tmp 54) (.tmp 65) rfl rfl HR2.out (by rfl) (by rfl) (by rfl) ?_))
  all_goals go_wp2_with fail
  all_goals refine bodyPost_ret (by simp [results, Tryd.results14, go_sem]; rfl) rfl ?_
  all_goals exact ⟨rfl, hP.out⟩
theorem write_any (w : World) (p b : Nat) (L : List Wr) (G : Int → Nat) (S : Nat → Prop) (h : Bm w p b L G S) (k a : Int) (t : ByteArray) :
    Calls Tryd.prog 14 #[.pointer (some ⟨p, 0, none⟩), .int .i64 k, .int .i64 a, .string t] w fun e w' => e = .returned (.int .i64 (writeE L k a t)) ∧ ∃ G', Bm w' p b (writeL L k a t) G' (fun i => S i ∨ w.heap.size ≤ i) ∧ Fr S w w' := by
  by_cases hb : writeE L k a t = 0 ∧ t.size ≠ 0
  · have e : writeL L k a t = L ++ [(k, a.toNat, t)] := by unfold writeL; rw [if_pos hb]
    rw [e, hb.1]
    exact write_good w p b L G S h k a t hb
  · have e : writeL L k a t = L := by unfold writeL; rw [if_neg hb]
    rw [e]
    refine (write_bad w p b L G S h k a t (by omega)).mono ?_
    rintro e w' ⟨rfl, rfl⟩
    exact ⟨rfl, G, h.mono (fun _ _ x => .inl x), Fr.refl _ _⟩
end Go.Proofs.YtkcebbidmlnmmaaDoor
