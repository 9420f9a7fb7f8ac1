/- A table in memory; New, set, Need, Give. -/
import Derived.Test.YtaokogeblpjabaaWa
namespace Go.Proofs.Ytaokogeblpjabaa
open Go.RowKit
structure Vm (f : Int → Nat) : Prop where
  lt : ∀ k, f k < 128
  dom : ∀ k, f k ≠ 0 → 2 ≤ k ∧ k < 8192
def updI (f : Int → Nat) (k : Int) (v : Nat) : Int → Nat := fun j => if j = k then v else f j
theorem Vm.upd {f : Int → Nat} (h : Vm f) {k : Int} {v : Nat} (hk : 2 ≤ k ∧ k < 8192) (hv : v < 128) : Vm (updI f k v) := by
  refine ⟨fun j => ?_, fun j hj => ?_⟩
  · unfold updI
    split
    · exact hv
    · exact h.lt j
  · unfold updI at hj
    split at hj
    · rename_i e; rw [e]; exact hk
    · exact h.dom j hj
theorem vm_none : Vm (fun _ => 0) := ⟨fun _ => by omega, fun _ h => absurd rfl h⟩
def mapOf (f : Int → Nat) (k : Int) : Option Value := if f k = 0 then none else some (.int .u8 (f k))
theorem mapOf_get (f : Int → Nat) (k : Int) : (mapOf f k).getD (.int .u8 (0 : Nat)) = .int .u8 (f k) := by
  unfold mapOf
  split
  · rename_i h; rw [h]; rfl
  · rfl
theorem mapOf_isSome (f : Int → Nat) (k : Int) : (mapOf f k).isSome = decide (f k ≠ 0) := by
  unfold mapOf
  split
  · rename_i h; simp [h]
  · rename_i h; simp [h]
/-- A table in memory. -/
structure DT (W : World) (t b : Nat) (f : Int → Nat) : Prop where
  row : RowAt W t 50 [.map (some b)]
  map : MapAt W b (mapOf f)
  vm : Vm f
  ne : t ≠ b
section
variable {W W' : World} {t b : Nat} {f f' : Int → Nat}
theorem DT.next (h : DT W t b f) (hb : Below W.heap.size W W') : DT W' t b f := ⟨h.row.next hb, h.map.next hb, h.vm, h.ne⟩
theorem DT.fr {M : Nat → Prop} (h : DT W t b f) (hf : Fr M W W') (h1 : ¬ M t) (h2 : ¬ M b) : DT W' t b f := ⟨h.row.fr hf h1, h.map.fr hf h2, h.vm, h.ne⟩
theorem DT.lt (h : DT W t b f) : t < W.heap.size ∧ b < W.heap.size := ⟨h.row.lt, h.map.lt⟩
theorem DT.c0 (h : DT W t b f) : W.cell? ⟨t, 0, none⟩ = some (.map (some b)) := h.row.cell 0
end
theorem zero52 (w : World) : (zeroValue 52).run Try.prog w = .ok (.int .u8 (0 : Nat)) w := by kernel_rfl
theorem und52 : Try.prog.underlying 52 = some (.int .u8) := Try.underlying52
theorem DT.look {w : World} {t b : Nat} {f : Int → Nat} (h : DT w t b f) (k : Int) : (Instr.lookup 48 (.map (some b)) (.int .i64 k) false).run Try.prog w = .ok (.int .u8 (f k)) w := by
  rw [run_look h.map Try.underlying48 Try.underlying3 (.int .u8 (0 : Nat)) (zero52 w) k, mapOf_get]
theorem DT.look_ok {w : World} {t b : Nat} {f : Int → Nat} (h : DT w t b f) (k : Int) : (Instr.lookup 48 (.map (some b)) (.int .i64 k) true).run Try.prog w = .ok (.tuple #[.int .u8 (f k), .bool (decide (f k ≠ 0))]) w := by
  rw [run_look_ok h.map Try.underlying48 Try.underlying3 (.int .u8 (0 : Nat)) (zero52 w) k, mapOf_get, mapOf_isSome]
theorem DT.store {w : World} {t b : Nat} {f : Int → Nat} (h : DT w t b f) {k : Int} {v : Nat} (hk : 2 ≤ k ∧ k < 8192) (hv : v < 128) (h0 : v ≠ 0) :
    ∃ w', (Instr.mapUpdate 48 (.map (some b)) (.int .i64 k) (.int .u8 v)).run Try.prog w = .ok () w' ∧ DT w' t b (updI f k v) ∧ Fr (· = b) w w' := by
  obtain ⟨w', h1, h2, h3, _⟩ := run_upd h.map Try.underlying48 Try.underlying3 k (.int .u8 v)
  refine ⟨w', h1, ⟨h.row.fr h3 h.ne, h2.ext fun j => ?_, h.vm.upd hk hv, h.ne⟩, h3⟩
  unfold mapOf updI
  by_cases e : j = k
  · simp [e, h0]
  · simp [e]
theorem DT.drop {w : World} {t b : Nat} {f : Int → Nat} (h : DT w t b f) {k : Int} (hk : 2 ≤ k ∧ k < 8192) (ty K' : TypeId) :
    ∃ w', (Builtin.delete_ #[48, K'] ty #[.map (some b), .int .i64 k]).run Try.prog w = .ok (.tuple #[]) w' ∧ DT w' t b (updI f k 0) ∧ Fr (· = b) w w' := by
  obtain ⟨w', h1, h2, h3, _⟩ := run_del h.map Try.underlying48 Try.underlying3 ty K' k
  refine ⟨w', h1, ⟨h.row.fr h3 h.ne, h2.ext fun j => ?_, h.vm.upd hk (by omega), h.ne⟩, h3⟩
  unfold mapOf updI
  by_cases e : j = k
  · simp [e]
  · simp [e]
theorem none_any (w : World) (t b : Nat) (f : Int → Nat) (h : DT w t b f) : Calls Try.prog 21 #[.pointer (some ⟨t, 0, none⟩)] w fun e w' => e = .returned (.bool false) ∧ w' = w := by
  have c0 := h.c0
  have hq : ∀ (w : World) (r : Option Nat), (binOp .eql 48 (.map r) (.map none)).run Try.prog w = .ok (.bool r.isNone) w := fun w r => run_eql_map_nil w 48 3 52 r Try.underlying48
  clear h
  go_enter Try.func21, Try.ntmps21
  go_wp2
  go_ret
  exact ⟨rfl, rfl⟩
theorem none_nil (w : World) : Calls Try.prog 21 #[.pointer none] w fun e w' => e = .returned (.bool true) ∧ w' = w := by
  go_enter Try.func21, Try.ntmps21
  go_wp2
  go_ret
  exact ⟨rfl, rfl⟩
theorem set_with (w : World) (t b : Nat) (f : Int → Nat) (h : DT w t b f) (k : Int) (hk : 2 ≤ k ∧ k < 8192) (m a : Nat) (hm : m < 128) (ha : a < 7) :
    Calls Try.prog 27 #[.pointer (some ⟨t, 0, none⟩), .int .i64 k, .func (.func 28) #[.int .u8 m] #[], .int .i64 a] w fun e w' => e = .returned (.tuple #[]) ∧ DT w' t b (updI f k (onM m a)) ∧ Fr (· = b) w w' := by
  obtain ⟨w1, hr, hd, hf⟩ := h.store hk (on_lt hm ha) (on_ne hm ha)
  have HR := Lib.hid hr
  have HD := Lib.hid hd
  have HF := Lib.hid hf
  have HW := Lib.hid (with_any w m a hm ha)
  have c0 := h.c0
  have hne : ((onM m a : Int) == 0) = false := by have := on_ne hm ha; simp; omega
  clear h hr hd hf
  generalize onM m a = M at *
  go_enter Try.func27, Try.ntmps27
  go_wp2_with fail
  refine HW.out.mono ?_
  rintro e w' ⟨rfl, hw⟩
  rw [hw]
  clear hw w' HW
  go_wp2_with (at_mapUpdate; refine wpList_upd rfl rfl rfl rfl rfl HR.out ?_)
  go_end0
  exact ⟨rfl, HD.out, HF.out⟩
theorem set_without (w : World) (t b : Nat) (f : Int → Nat) (h : DT w t b f) (k : Int) (hk : 2 ≤ k ∧ k < 8192) (m a : Nat) (hm : m < 128) (ha : a < 7) :
    Calls Try.prog 27 #[.pointer (some ⟨t, 0, none⟩), .int .i64 k, .func (.func 29) #[.int .u8 m] #[], .int .i64 a] w fun e w' => e = .returned (.tuple #[]) ∧ DT w' t b (updI f k (offM m a)) ∧ Fr (· = b) w w' := by
  have HW := Lib.hid (without_any w m a hm ha)
  have c0 := h.c0
  by_cases h0 : offM m a = 0
  · obtain ⟨w1, hr, hd, hf⟩ := h.drop hk 0 3
    rw [h0]
    rw [h0] at HW
    have HR := Lib.hid hr
    have HD := Lib.hid hd
    have HF := Lib.hid hf
    clear h hr hd hf h0
    go_enter Try.func27, Try.ntmps27
    go_wp2_with fail
    refine HW.out.mono ?_
    rintro e w' ⟨rfl, hw⟩
    rw [hw]
    clear hw w' HW
    go_wp2_with (at_delete; refine wpList_del rfl rfl rfl rfl rfl HR.out ?_)
    go_end0
    exact ⟨rfl, HD.out, HF.out⟩
  · obtain ⟨w1, hr, hd, hf⟩ := h.store hk (off_lt hm ha) h0
    have HR := Lib.hid hr
    have HD := Lib.hid hd
    have HF := Lib.hid hf
    have hne : ((offM m a : Int) == 0) = false := by simp; omega
    clear h hr hd hf h0
    generalize offM m a = M at *
    go_enter Try.func27, Try.ntmps27
    go_wp2_with fail
    refine HW.out.mono ?_
    rintro e w' ⟨rfl, hw⟩
    rw [hw]
    clear hw w' HW
    go_wp2_with (at_mapUpdate; refine wpList_upd rfl rfl rfl rfl rfl HR.out ?_)
    go_end0
    exact ⟨rfl, HD.out, HF.out⟩
theorem make48 (w : World) : (Instr.makeMap 48 none).run Try.prog w = .ok (.map (some w.heap.size)) (w.alloc (.map #[] 0)) := by
  first | rfl | (simp [Instr.makeMap, go_sem])
theorem new_any (w : World) : Calls Try.prog 7 #[] w fun e w' => e = .returned (.pointer (some ⟨w.heap.size + 1, 0, none⟩)) ∧ DT w' (w.heap.size + 1) w.heap.size (fun _ => 0) ∧ Below w.heap.size w w' := by
  have hmk := make48
  have hm := MapAt.made w
  have hr := RowAt.new (w.alloc (.map #[] 0)) 50 [.map (some w.heap.size)]
  have hm2 := hm.next ((Below.refl _ _).alloc (Nat.le_refl _) (.cells [Value.map (some w.heap.size)].toArray 50))
  have hz : (w.alloc (.map #[] 0)).heap.size = w.heap.size + 1 := by simp
  rw [hz] at hr
  have HD : Hid (DT ((w.alloc (.map #[] 0)).alloc (.cells [Value.map (some w.heap.size)].toArray 50)) (w.heap.size + 1) w.heap.size (fun _ => 0)) := Lib.hid ⟨hr, hm2.ext (fun k => by simp [mapOf]), vm_none, by omega⟩
  clear hm hr hm2 hz
  go_enter Try.func7, Try.ntmps7
  go_wp2
  refine bodyPost_ret (by simp [results, Try.results7, go_sem]; rfl) rfl ?_
  exact ⟨rfl, HD.out, ((Below.refl _ _).alloc (Nat.le_refl _) _).alloc (by simp) _⟩
def okT (a : Int) : Prop := 0 ≤ a ∧ a ≤ 6
def okB (k : Int) : Prop := 2 ≤ k ∧ k < 8192
instance (a : Int) : Decidable (okT a) := by unfold okT; infer_instance
instance (a : Int) : Decidable (okB a) := by unfold okB; infer_instance
def needE (f : Int → Nat) (a k : Int) : Int := if okT a ∧ okB k then (if (f k).testBit a.toNat then 6 else 0) else 1
def needF (f : Int → Nat) (a k : Int) : Int → Nat := if okT a ∧ okB k then (if (f k).testBit a.toNat then f else updI f k (onM (f k) a.toNat)) else f
def giveE (f : Int → Nat) (a k : Int) : Int := if okT a ∧ okB k then (if (f k).testBit a.toNat then 0 else 5) else 1
def giveR (f : Int → Nat) (a k : Int) : Bool := if okT a ∧ okB k then (if (f k).testBit a.toNat then decide (offM (f k) a.toNat = 0) else false) else false
def giveF (f : Int → Nat) (a k : Int) : Int → Nat := if okT a ∧ okB k then (if (f k).testBit a.toNat then updI f k (offM (f k) a.toNat) else f) else f
set_option maxHeartbeats 1000000 in
theorem need_any (w : World) (t b : Nat) (f : Int → Nat) (h : DT w t b f) (a k : Int) :
    Calls Try.prog 9 #[.pointer (some ⟨t, 0, none⟩), .int .i64 a, .int .i64 k] w fun e w' => e = .returned (.int .i64 (needE f a k)) ∧ DT w' t b (needF f a k) ∧ Fr (· = b) w w' := by
  have HN := Lib.hid (none_any w t b f h)
  have HT := Lib.hid (isTree_any w a)
  have HK := Lib.hid (isBlock_any w k)
  have HD := Lib.hid h
  have c0 := h.c0
  clear h
  by_cases h1 : 0 ≤ a ∧ a ≤ 6
  · by_cases h2 : 2 ≤ k ∧ k < 8192
    · rw [decide_eq_true h1] at HT
      rw [decide_eq_true h2] at HK
      have HL := Lib.hid (HD.out.look k)
      obtain ⟨c, rfl⟩ : ∃ c : Nat, a = c := ⟨a.toNat, by omega⟩
      have hc : c < 7 := by omega
      have HH := Lib.hid (has_any w (f k) c (HD.out.vm.lt k) hc)
      have HS := Lib.hid (set_with w t b f HD.out k h2 (f k) c (HD.out.vm.lt k) hc)
      cases h3 : (f k).testBit c with
      | true =>
        have e1 : needE f c k = 6 := by simp [needE, okT, okB, h1, h2, h3]
        have e2 : needF f c k = f := by simp [needF, okT, okB, h1, h2, h3]
        rw [e1, e2]
        clear e1 e2
        clear h1 h2
        rw [h3] at HH
        clear h3 HS
        generalize f k = m at *
        go_enter Try.func9, Try.ntmps9
        go_wp2_with fail
        refine HN.out.mono ?_
        rintro e w' ⟨rfl, hw⟩
        rw [hw]
        clear hw w'
        go_wp2_with fail
        refine HT.out.mono ?_
        rintro e w' ⟨rfl, hw⟩
        rw [hw]
        clear hw w'
        go_wp2_with fail
        refine HK.out.mono ?_
        rintro e w' ⟨rfl, hw⟩
        rw [hw]
        clear hw w'
        go_wp2_with (at_lookup; refine wpList_look rfl rfl rfl rfl HL.out ?_)
        refine HH.out.mono ?_
        rintro e w' ⟨rfl, hw⟩
        rw [hw]
        clear hw w'
        go_wp2_with fail
        all_goals refine bodyPost_ret (by simp [results, Try.results9, go_sem]; rfl) rfl ?_
        all_goals exact ⟨rfl, HD.out, Fr.refl _ _⟩
      | false =>
        have e1 : needE f c k = 0 := by simp [needE, okT, okB, h1, h2, h3]
        have e2 : needF f c k = updI f k (onM (f k) c) := by simp [needF, okT, okB, h1, h2, h3]
        rw [e1, e2]
        clear e1 e2
        clear h1 h2
        rw [h3] at HH
        clear h3
        generalize onM (f k) c = M at *
        generalize f k = m at *
        go_enter Try.func9, Try.ntmps9
        go_wp2_with fail
        refine HN.out.mono ?_
        rintro e w' ⟨rfl, hw⟩
        rw [hw]
        clear hw w'
        go_wp2_with fail
        refine HT.out.mono ?_
        rintro e w' ⟨rfl, hw⟩
        rw [hw]
        clear hw w'
        go_wp2_with fail
        refine HK.out.mono ?_
        rintro e w' ⟨rfl, hw⟩
        rw [hw]
        clear hw w'
        go_wp2_with (at_lookup; refine wpList_look rfl rfl rfl rfl HL.out ?_)
        refine HH.out.mono ?_
        rintro e w' ⟨rfl, hw⟩
        rw [hw]
        clear hw w'
        go_wp2_with fail
        refine HS.out.mono ?_
        rintro e w1 ⟨rfl, hd, hf⟩
        go_wp2_with fail
        all_goals refine bodyPost_ret (by simp [results, Try.results9, go_sem]; rfl) rfl ?_
        all_goals exact ⟨rfl, hd, hf⟩
    · have e1 : needE f a k = 1 := by simp [needE, okT, okB, h1, h2]
      have e2 : needF f a k = f := by simp [needF, okT, okB, h1, h2]
      rw [e1, e2]
      clear e1 e2
      rw [decide_eq_true h1] at HT
      rw [decide_eq_false h2] at HK
      clear h1 h2
      go_enter Try.func9, Try.ntmps9
      go_wp2_with fail
      refine HN.out.mono ?_
      rintro e w' ⟨rfl, hw⟩
      rw [hw]
      clear hw w'
      go_wp2_with fail
      refine HT.out.mono ?_
      rintro e w' ⟨rfl, hw⟩
      rw [hw]
      clear hw w'
      go_wp2_with fail
      refine HK.out.mono ?_
      rintro e w' ⟨rfl, hw⟩
      rw [hw]
      clear hw w'
      go_wp2_with fail
      all_goals refine bodyPost_ret (by simp [results, Try.results9, go_sem]; rfl) rfl ?_
      all_goals exact ⟨rfl, HD.out, Fr.refl _ _⟩
  · have e1 : needE f a k = 1 := by simp [needE, okT, okB, h1]
    have e2 : needF f a k = f := by simp [needF, okT, okB, h1]
    rw [e1, e2]
    clear e1 e2
    rw [decide_eq_false h1] at HT
    clear h1 HK
    go_enter Try.func9, Try.ntmps9
    go_wp2_with fail
    refine HN.out.mono ?_
    rintro e w' ⟨rfl, hw⟩
    rw [hw]
    clear hw w'
    go_wp2_with fail
    refine HT.out.mono ?_
    rintro e w' ⟨rfl, hw⟩
    rw [hw]
    clear hw w'
    go_wp2_with fail
    all_goals refine bodyPost_ret (by simp [results, Try.results9, go_sem]; rfl) rfl ?_
    all_goals exact ⟨rfl, HD.out, Fr.refl _ _⟩
set_option maxHeartbeats 1000000 in
theorem give_any (w : World) (t b : Nat) (f : Int → Nat) (h : DT w t b f) (a k : Int) :
    Calls Try.prog 10 #[.pointer (some ⟨t, 0, none⟩), .int .i64 a, .int .i64 k] w fun e w' => e = .returned (.tuple #[.bool (giveR f a k), .int .i64 (giveE f a k)]) ∧ DT w' t b (giveF f a k) ∧ Fr (· = b) w w' := by
  have HN := Lib.hid (none_any w t b f h)
  have HT := Lib.hid (isTree_any w a)
  have HK := Lib.hid (isBlock_any w k)
  have HD := Lib.hid h
  have c0 := h.c0
  clear h
  by_cases h1 : 0 ≤ a ∧ a ≤ 6
  · by_cases h2 : 2 ≤ k ∧ k < 8192
    · rw [decide_eq_true h1] at HT
      rw [decide_eq_true h2] at HK
      have HL := Lib.hid (HD.out.look k)
      obtain ⟨c, rfl⟩ : ∃ c : Nat, a = c := ⟨a.toNat, by omega⟩
      have hc : c < 7 := by omega
      have HH := Lib.hid (has_any w (f k) c (HD.out.vm.lt k) hc)
      have HS := Lib.hid (set_without w t b f HD.out k h2 (f k) c (HD.out.vm.lt k) hc)
      cases h3 : (f k).testBit c with
      | true =>
        have HO := Lib.hid (fun x => without_any x (f k) c (HD.out.vm.lt k) hc)
        have e1 : giveE f c k = 0 := by simp [giveE, okT, okB, h1, h2, h3]
        have e2 : giveF f c k = updI f k (offM (f k) c) := by simp [giveF, okT, okB, h1, h2, h3]
        have e3 : giveR f c k = decide (offM (f k) c = 0) := by simp [giveR, okT, okB, h1, h2, h3]
        rw [e1, e2, e3]
        clear e1 e2 e3
        clear h1 h2
        rw [h3] at HH
        clear h3
        have hne : ((offM (f k) c : Int) == 0) = decide (offM (f k) c = 0) := by
          rw [Bool.eq_iff_iff]; simp
        obtain ⟨z, hz⟩ : ∃ z, z = decide (offM (f k) c = 0) := ⟨_, rfl⟩
        rw [← hz] at hne ⊢
        clear hz
        generalize offM (f k) c = M at *
        generalize f k = m at *
        go_enter Try.func10, Try.ntmps10
        go_wp2_with fail
        refine HN.out.mono ?_
        rintro e w' ⟨rfl, hw⟩
        rw [hw]
        clear hw w'
        go_wp2_with fail
        refine HT.out.mono ?_
        rintro e w' ⟨rfl, hw⟩
        rw [hw]
        clear hw w'
        go_wp2_with fail
        refine HK.out.mono ?_
        rintro e w' ⟨rfl, hw⟩
        rw [hw]
        clear hw w'
        go_wp2_with (at_lookup; refine wpList_look rfl rfl rfl rfl HL.out ?_)
        refine HH.out.mono ?_
        rintro e w' ⟨rfl, hw⟩
        rw [hw]
        clear hw w'
        go_wp2_with fail
        refine HS.out.mono ?_
        rintro e w1 ⟨rfl, hd, hf⟩
        go_wp2_with fail
        refine (HO.out w1).mono ?_
        rintro e w' ⟨rfl, hw⟩
        rw [hw]
        clear hw w' HO
        go_wp2_with fail
        all_goals refine bodyPost_ret (by simp [results, Try.results10, go_sem]; rfl) rfl ?_
        all_goals exact ⟨rfl, hd, hf⟩
      | false =>
        have e1 : giveE f c k = 5 := by simp [giveE, okT, okB, h1, h2, h3]
        have e2 : giveF f c k = f := by simp [giveF, okT, okB, h1, h2, h3]
        have e3 : giveR f c k = false := by simp [giveR, okT, okB, h1, h2, h3]
        rw [e1, e2, e3]
        clear e1 e2 e3
        clear h1 h2
        rw [h3] at HH
        clear h3 HS
        generalize f k = m at *
        go_enter Try.func10, Try.ntmps10
        go_wp2_with fail
        refine HN.out.mono ?_
        rintro e w' ⟨rfl, hw⟩
        rw [hw]
        clear hw w'
        go_wp2_with fail
        refine HT.out.mono ?_
        rintro e w' ⟨rfl, hw⟩
        rw [hw]
        clear hw w'
        go_wp2_with fail
        refine HK.out.mono ?_
        rintro e w' ⟨rfl, hw⟩
        rw [hw]
        clear hw w'
        go_wp2_with (at_lookup; refine wpList_look rfl rfl rfl rfl HL.out ?_)
        refine HH.out.mono ?_
        rintro e w' ⟨rfl, hw⟩
        rw [hw]
        clear hw w'
        go_wp2_with fail
        all_goals refine bodyPost_ret (by simp [results, Try.results10, go_sem]; rfl) rfl ?_
        all_goals exact ⟨rfl, HD.out, Fr.refl _ _⟩
    · have e1 : giveE f a k = 1 := by simp [giveE, okT, okB, h1, h2]
      have e2 : giveF f a k = f := by simp [giveF, okT, okB, h1, h2]
      have e3 : giveR f a k = false := by simp [giveR, okT, okB, h1, h2]
      rw [e1, e2, e3]
      clear e1 e2 e3
      rw [decide_eq_true h1] at HT
      rw [decide_eq_false h2] at HK
      clear h1 h2
      go_enter Try.func10, Try.ntmps10
      go_wp2_with fail
      refine HN.out.mono ?_
      rintro e w' ⟨rfl, hw⟩
      rw [hw]
      clear hw w'
      go_wp2_with fail
      refine HT.out.mono ?_
      rintro e w' ⟨rfl, hw⟩
      rw [hw]
      clear hw w'
      go_wp2_with fail
      refine HK.out.mono ?_
      rintro e w' ⟨rfl, hw⟩
      rw [hw]
      clear hw w'
      go_wp2_with fail
      all_goals refine bodyPost_ret (by simp [results, Try.results10, go_sem]; rfl) rfl ?_
      all_goals exact ⟨rfl, HD.out, Fr.refl _ _⟩
  · have e1 : giveE f a k = 1 := by simp [giveE, okT, okB, h1]
    have e2 : giveF f a k = f := by simp [giveF, okT, okB, h1]
    have e3 : giveR f a k = false := by simp [giveR, okT, okB, h1]
    rw [e1, e2, e3]
    clear e1 e2 e3
    rw [decide_eq_false h1] at HT
    clear h1 HK
    go_enter Try.func10, Try.ntmps10
    go_wp2_with fail
    refine HN.out.mono ?_
    rintro e w' ⟨rfl, hw⟩
    rw [hw]
    clear hw w'
    go_wp2_with fail
    refine HT.out.mono ?_
    rintro e w' ⟨rfl, hw⟩
    rw [hw]
    clear hw w'
    go_wp2_with fail
    all_goals refine bodyPost_ret (by simp [results, Try.results10, go_sem]; rfl) rfl ?_
    all_goals exact ⟨rfl, HD.out, Fr.refl _ _⟩
end Go.Proofs.Ytaokogeblpjabaa
