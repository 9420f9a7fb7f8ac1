/- given: the document's chain as the program's. -/
import Derived.Test.YtdjahdipaffajaaWd
import Derived.Test.YtdjahdipaffajaaSe
import Derived.Test.YtdjahdipaffajaaAp
namespace Go.Proofs.Ytdjahdipaffajaa
open Go.RowKit
theorem wp_app {P : Program} {w w' : World} {o : Oper} {a : Act} {K : Act → World → Prop} {Q : Exit → Act → World → Prop} {v y v' : Value} (s x : Operand) (t ty : TypeId)
    (ho : o.op = .call { callee := .builtin .append, args := #[s, x], argTypes := #[t, t] }) (hty : o.type = ty) (hr : (Builtin.append_ #[t, t] ty #[v, y]).run P w = .ok v' w') (hs : a.eval s = v) (hx : a.eval x = y)
    (h : K (a.put o.dst v') w') : o.wp P a w K Q := by
  unfold Oper.wp execOp
  subst hty
  simp only [ho, resolve, invoke, builtin, Sem.run_bind, Sem.run_pure, Result.andThen_ok, List.map_toArray, List.map_cons, List.map_nil, hs, hx, hr]
  exact h
/-- One element more, of any number of cells. -/
theorem run_app1 {P : Program} (w : World) (base : Nat) (t ty e : TypeId) (i : TypeInfo) (z : Value) (size bytes : Nat) (ht : P.underlying t = some (.slice e)) (hi : P.info? e = some i) (hz : i.zero = some z)
    (hsize : i.size = size) (hby : i.bytes = bytes) (hzs : z.cells.size = size) (h0 : 0 < size)
    (v : Value) (n : Nat) (xs : List Value) (hown : w.ownsRow base e size v n xs) (b T : Nat) (c : Nat) (news : List Value) (hr : RowAt w b T news) (hl : news.length = size) (h1 : ∀ u ∈ news, u.oneCell' = true)
    (h63 : n + 1 ≤ maxLen) (hbytes : (n + 1) * bytes ≤ 140737488355328) (hbase : base ≤ w.heap.size) :
    ∃ v' w', (Builtin.append_ #[t, t] ty #[v, .slice (some ⟨b, 0, none⟩) 1 c]).run P w = .ok v' w' ∧ w'.ownsRow base e size v' (n + 1) (xs ++ news) ∧ Below base w w' := by
  have hcells : ∀ j u, news[j]? = some u → w.cell? ((⟨b, 0, none⟩ : Addr).add j) = some u := by
    intro j u hu
    have e1 : (⟨b, 0, none⟩ : Addr).add j = ⟨b, j, none⟩ := by
      unfold Addr.add; split
      · rename_i h; subst h; rfl
      · simp
    rw [e1, hr.cell, hu]
  obtain ⟨v', w', hrun, h2, h3, _, h5⟩ := run_append_own_at (P := P) w base t ty e i z size bytes ht hi hz hsize hby hzs h0 v n xs hown ⟨b, 0, none⟩ 1 c news (by omega) hcells h1 h63 hbytes hbase
  exact ⟨v', w', hrun, h2, (Below.refl _ _).grown h3 hbase fun k hk => ownsRow_block hown k hk⟩
theorem owns_next {w w' : World} {base size n : Nat} {e : TypeId} {v : Value} {xs : List Value} (h : w.ownsRow base e size v n xs) (hb : Below w.heap.size w w') : w'.ownsRow base e size v n xs := by
  obtain ⟨h1, h2 | ⟨g, cap, cur, e1, e2, e3, e4⟩⟩ := h
  · exact ⟨h1, .inl h2⟩
  · exact ⟨h1, .inr ⟨g, cap, cur, e1, e2, (hb.block g (Array.getElem?_eq_some_iff.1 e3).1).trans e3, e4⟩⟩
def flat (l : List (Int × Int)) : List Value := l.flatMap fun u => [.int .i64 u.1, .int .i64 u.2]
theorem flat_len (l : List (Int × Int)) : (flat l).length = l.length * 2 := by
  induction l with
  | nil => rfl
  | cons u l ih => simp [flat] at ih ⊢; omega
theorem flat_get : ∀ (l : List (Int × Int)) (i : Nat) (u : Int × Int), l[i]? = some u → (flat l)[i * 2]? = some (.int .i64 u.1) ∧ (flat l)[i * 2 + 1]? = some (.int .i64 u.2)
  | [], i, u, h => by simp at h
  | v :: l, 0, u, h => by simp at h; subst h; exact ⟨rfl, rfl⟩
  | v :: l, i + 1, u, h => by
    have := flat_get l i u (by simpa using h)
    have e : flat (v :: l) = .int .i64 v.1 :: .int .i64 v.2 :: flat l := rfl
    rw [e, show (i + 1) * 2 = i * 2 + 1 + 1 from by omega]
    simpa using this
theorem flat_snoc (l : List (Int × Int)) (u : Int × Int) : flat (l ++ [u]) = flat l ++ [.int .i64 u.1, .int .i64 u.2] := by simp [flat]
theorem ups_owned {w : World} {base : Nat} {v : Value} {e : TypeId} {l : List (Int × Int)} (h : w.ownsRow base e 2 v l.length (flat l)) (hok : ∀ u ∈ l, ok64 u.1 ∧ ok64 u.2) : ∃ a cap, v = .slice a l.length cap ∧ UpsAt w a l.length l := by
  rcases h.2 with ⟨rfl, h0⟩ | ⟨g, cap, cur, rfl, hb, hg, hc1, _, hsz, htk⟩
  · have : l = [] := List.eq_nil_of_length_eq_zero h0
    subst this
    exact ⟨none, 0, rfl, rfl, hok, .inl rfl⟩
  · refine ⟨_, cap, rfl, rfl, hok, .inr ⟨g, 0, rfl, (Array.getElem?_eq_some_iff.1 hg).1, fun i u hu => ?_⟩⟩
    have hi : i < l.length := (List.getElem?_eq_some_iff.1 hu).1
    obtain ⟨g1, g2⟩ := flat_get l i u hu
    have hcell : ∀ j, j < l.length * 2 → w.cell? ⟨g, j, none⟩ = (flat l)[j]? := by
      intro j hj
      rw [← htk, List.getElem?_take_of_lt hj]
      simp [World.cell?, hg]
    rw [Nat.zero_add, hcell _ (by omega), hcell _ (by omega)]
    exact ⟨g1, g2⟩
theorem info34 : ∃ i z, Try.prog.info? 34 = some i ∧ i.zero = some z ∧ i.size = 2 ∧ i.bytes = 16 ∧ z.cells.size = 2 := ⟨_, _, rfl, rfl, rfl, rfl, rfl⟩
/-- A new slice of one pair. -/
def NewUp (x y : Int) (u : Value) (w : World) : Prop := ∃ b, u = .slice (some ⟨b, 0, none⟩) 1 1 ∧ RowAt w b 34 [.int .i64 x, .int .i64 y]
theorem newUp_stable (x y : Int) : ∀ u, StableF (fun u u' => Below u.heap.size u u') (NewUp x y u) := by
  rintro u w w' hb ⟨b, rfl, h⟩
  exact ⟨b, rfl, h.next hb⟩
def GvInv (w : World) (l : List (Int × Int)) (out i : Value) (wr : World) : Prop := ∃ k : Nat, k ≤ l.length ∧ i = .int .i64 k ∧ wr.ownsRow w.heap.size 34 2 out k (flat (l.take k)) ∧ Below w.heap.size w wr
set_option maxHeartbeats 2000000 in
theorem given_any (w : World) (a : Option Addr) (n cap : Nat) (l : List (Int × Int)) (hs : UpsAt w a n l) (hn : n ≤ 1000) :
    Calls Try.prog 10 #[.slice a n cap] w fun e w' => ∃ a' cap', e = .returned (.slice a' n cap') ∧ UpsAt w' a' n l ∧ Below w.heap.size w w' := by
  have HS := Lib.hid hs
  clear hs
  go_enter Try.func10, Try.ntmps10
  go_wp2_with fail
  go_loopw [3, 4] (fun out i wr => GvInv w l out i wr) (fun _ i _ => n - (intOf i).toNat)
  case atStart => exact ⟨0, by omega, rfl, ⟨rfl, .inl ⟨rfl, rfl⟩⟩, Below.refl _ _⟩
  case round =>
    obtain ⟨k, hk, rfl, hown, hb⟩ := hrel
    have HO := Lib.hid hown
    have HB := Lib.hid hb
    rw [HS.out.1] at hk
    clear hown hb
    by_cases hlt : k < n
    · obtain ⟨b1, o1, rfl, l1, hcs⟩ := HS.out.get k hlt
      have hll : k < l.length := by have := HS.out.1; omega
      obtain ⟨u, hu⟩ : ∃ u, l[k]? = some u := ⟨l[k], List.getElem?_eq_getElem _⟩
      obtain ⟨q1, q2⟩ := hcs k u hu
      have d1 := (HB.out.cell (p := ⟨b1, o1 + k * 2, none⟩) l1).trans q1
      have d2 := (HB.out.cell (p := ⟨b1, o1 + k * 2 + 1, none⟩) l1).trans q2
      have hb1 : b1 < wr.heap.size := Nat.lt_of_lt_of_le l1 HB.out.size
      have HU := Lib.hid hu
      clear q1 q2 hu hcs hll
      obtain ⟨ux, uy⟩ := u
      go_wp2_with fail
      refine wp_region_parts (by kernel_rfl) (by kernel_rfl) ?_
      have hb0 : Below wr.heap.size wr wr.drew := (Below.refl _ _).drew
      generalize wr.drew = W at *
      apply regL_lq W.heap.size
      intro D hD hn'
      have p1 := fun z : Bd W.heap.size W D => ((bt hb0 z.ok).cell (p := ⟨b1, o1 + k * 2, none⟩) hb1).trans d1
      have p2 := fun z : Bd W.heap.size W D => ((bt hb0 z.ok).cell (p := ⟨b1, o1 + k * 2 + 1, none⟩) hb1).trans d2
      repeat (apply wpLQ_pin rfl rfl; intro K hK; go_big_quiet_op; go_big_quiet_on; apply And.intro rfl)
      apply wpLQ_loose (NewUp ux uy) (newUp_stable _ _) (Nat.le_refl _) hD rfl
      · intro x _
        unfold Runs
        go_simp
        exact ⟨⟨_, rfl, RowAt.new x.val 34 [.int .i64 ux, .int .i64 uy]⟩, (Below.refl _ _).alloc (Nat.le_refl _) _⟩
      intro u
      simp only [Act.put, List.setIfInBounds_toArray, List.set_cons_succ, List.set_cons_zero]
      apply wpLQ_end (bar_of (by kernel_rfl))
      intro W1 hb01 hfc
      obtain ⟨tb, rfl, htb⟩ := hfc (12, _) (.inl rfl)
      have HRW := Lib.hid htb
      have HB1 := Lib.hid (bt hb0 hb01)
      clear p1 p2 hn' hD hb01 hb0 d1 d2 hfc htb
      have HB3 := Lib.hid (HB.out.trans (HB1.out.mono HB.out.size))
      obtain ⟨i0, z0, e1, e2, e3, e4, e5⟩ := info34
      obtain ⟨v', w', hrun, ho', hb'⟩ := run_app1 (P := Try.prog) W1 w.heap.size 27 27 34 i0 z0 2 16 Try.underlying27 e1 e2 e3 e4 e5 (by decide) _ k _ (owns_next HO.out HB1.out) tb 34 1 [.int .i64 ux, .int .i64 uy] HRW.out rfl (by simp [Value.oneCell']) (by unfold maxLen; omega) (by omega) HB3.out.size
      have HRUN := Lib.hid hrun
      have HO2 := Lib.hid ho'
      have HB4 := Lib.hid (HB3.out.trans hb')
      clear hrun ho' hb' e1 e2 e3 e4 e5
      apply regL_one (bar_of (by kernel_rfl)) rfl
      refine wp_app (.tmp 11) (.tmp 23) 27 27 rfl rfl HRUN.out rfl rfl ?_
      apply regL_lq w'.heap.size
      intro D hD hn'
      simp only [Act.put, List.setIfInBounds_toArray, List.set_cons_succ, List.set_cons_zero]
      repeat (apply wpLQ_pin rfl rfl; intro K hK; go_big_quiet_op; go_big_quiet_on; apply And.intro rfl)
      apply wpLQ_nil (by simp)
      intro W5 hb5 _
      have HB5 := Lib.hid hb5
      clear hb5 hn' hD
      go_wp2_with fail
      go_roundw
      case rel =>
        refine ⟨k + 1, by have := HS.out.1; omega, by go_num, ?_, HB4.out.trans (HB5.out.mono HB4.out.size)⟩
        rw [List.take_add_one, HU.out]
        simp only [Option.toList_some, flat_snoc]
        exact owns_next HO2.out HB5.out
      case measure => simp [intOf]; omega
    · obtain rfl : k = n := by omega
      go_wp2
      go_ret
      have ho := HO.out
      have hl := HS.out.1
      rw [List.take_of_length_le (by omega), ← hl] at ho
      obtain ⟨a', cap', rfl, hu⟩ := ups_owned ho HS.out.2.1
      rw [hl] at hu ⊢
      exact ⟨a', cap', rfl, hu, HB.out⟩
end Go.Proofs.Ytdjahdipaffajaa
