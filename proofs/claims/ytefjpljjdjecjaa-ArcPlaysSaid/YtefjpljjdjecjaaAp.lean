/- append onto a row of the call's own, the source nil, empty or not; sizes of strings that came in. -/
import Derived.Test.YtefjpljjdjecjaaBa
import Derived.Maps.AppendAt
import Derived.Laws.OwnMore
import Derived.SizedLaws
import Derived.SliceStrings
import Derived.ProofKit
import Derived.OpenShut
namespace Go.Proofs.Ytefjpljjdjecjaa
open Go.ChangeShapes Go.WideShapes Go.ChangeAt Go.RowKit

theorem run_app_nil {P : Program} (w : World) (base : Nat) (t ty e : TypeId) (i : TypeInfo) (size : Nat) (ht : P.underlying t = some (.slice e)) (hi : P.info? e = some i)
    (v : Value) (n : Nat) (xs : List Value) (hown : w.ownsRow base e size v n xs) (c : Nat) : (Builtin.append_ #[t, t] ty #[v, .slice none 0 c]).run P w = .ok v w := by
  rcases hown.2 with ⟨rfl, rfl⟩ | ⟨g, cap, cur, rfl, _, _, hnc, _⟩
  · simp [Builtin.append_, run_underlying ht, sizeOf, typeInfo, hi, Builtin.lenOf, Builtin.firstCells]
  · simp [Builtin.append_, run_underlying ht, sizeOf, typeInfo, hi, Builtin.lenOf, Builtin.firstCells, hnc, storeCells]
/-- Elements of one cell each. -/
theorem run_app {P : Program} (w : World) (base : Nat) (t ty e : TypeId) (i : TypeInfo) (z : Value) (bytes : Nat) (ht : P.underlying t = some (.slice e)) (hi : P.info? e = some i) (hz : i.zero = some z)
    (hsize : i.size = 1) (hby : i.bytes = bytes) (hzs : z.cells.size = 1)
    (v : Value) (n : Nat) (xs : List Value) (hown : w.ownsRow base e 1 v n xs)
    (A : Option Addr) (m c : Nat) (news : List Value) (hr : SliceAt w A m news) (hn : A = none → m = 0) (h1 : ∀ u ∈ news, u.oneCell' = true)
    (h63 : n + m ≤ maxLen) (hbytes : (n + m) * bytes ≤ 140737488355328) (hbase : base ≤ w.heap.size) :
    ∃ v' w', (Builtin.append_ #[t, t] ty #[v, .slice A m c]).run P w = .ok v' w' ∧ w'.ownsRow base e 1 v' (n + m) (xs ++ news) ∧ w.grownBy w' v.ownBlock ∧ (v'.ownBlock = v.ownBlock ∨ v'.ownBlock = some w.heap.size) ∧ Below base w w' := by
  have hbl : ∀ {w' : World}, w.grownBy w' v.ownBlock → Below base w w' := fun hg => (Below.refl _ _).grown hg hbase fun k hk => ownsRow_block hown k hk
  cases A with
  | none =>
    obtain rfl := hn rfl
    obtain rfl : news = [] := List.eq_nil_of_length_eq_zero hr.1
    exact ⟨v, w, run_app_nil w base t ty e i 1 ht hi v n xs hown c, by simpa using hown, World.grownBy.refl w _, .inl rfl, Below.refl _ _⟩
  | some ad =>
    have hcells : ∀ j u, news[j]? = some u → w.cell? (ad.add j) = some u := by
      intro j u hu
      have hj : j < m := by
        rw [← hr.1]
        exact (List.getElem?_eq_some_iff.1 hu).1
      obtain ⟨b, off, he, _, hc⟩ := hr.get j hj
      cases he
      have e1 : (⟨b, off, none⟩ : Addr).add j = ⟨b, off + j, none⟩ := by
        unfold Addr.add; split
        · rename_i h; subst h; rfl
        · rfl
      rw [e1, hc, hu]
    obtain ⟨v', w', hrun, h2, h3, _, h5⟩ := run_append_own_at (P := P) w base t ty e i z 1 bytes ht hi hz hsize hby hzs (by decide) v n xs hown ad m c news (by rw [hr.1]; omega) hcells h1 h63 hbytes hbase
    exact ⟨v', w', hrun, h2, h3, h5, hbl h3⟩

/-- append in a plain region, guarded or not, by its run's equation. -/
theorem wpList_app {P : Program} {w w' : World} {ops : Array Oper} {rest : List Oper} {o : Oper} {a : Act} {Q : Exit → Act → World → Prop} {v y v' : Value} (hw : Region.wanted o (yielded ops a.tmps) = true) (s x : Operand) (t ty : TypeId)
    (ho : o.op = .call { callee := .builtin .append, args := #[s, x], argTypes := #[t, t] }) (hty : o.type = ty) (hr : (Builtin.append_ #[t, t] ty #[v, y]).run P w = .ok v' w') (hs : a.eval s = v) (hx : a.eval x = y)
    (h : wpList P ops Q rest (a.put o.dst v') w') : wpList P ops Q (o :: rest) a w := by
  refine BigFrame.wpList_want hw fun K hK => ?_
  unfold Oper.wp execOp
  subst hty
  simp only [ho, resolve, invoke, builtin, Sem.run_bind, Sem.run_pure, Result.andThen_ok, List.map_toArray, List.map_cons, List.map_nil, hs, hx, hr]
  exact hK _ _ h
section
variable {H : Type} {enc : TypeId × Value → H} {P : Program} {w : World} {base : Nat} {spare : Nat → Bool} {held : Bool} {r : Reach} {b0 : Nat} {t e : TypeId} {v : Value} {d : DataW H} {p : List MemPlace}
theorem weightsAll_mem {P : Program} {e : TypeId} : ∀ {l : List (DataW H)} {d : DataW H}, d ∈ l → ∀ n ∈ d.weights P e, n ∈ DataW.weightsAll P e l
  | x :: l, d, h, n, hn => by
    simp only [DataW.weightsAll, List.mem_append]
    rcases List.mem_cons.1 h with rfl | h
    · exact .inl hn
    · exact .inr (weightsAll_mem h n hn)
/-- A slice of strings that came in, within the reach. -/
theorem open_strs_sized (ht : P.underlying t = some (.slice e)) (he : P.underlying e = some .string) (hc : P.cellsOf e = 1) (hby : P.bytesOf e = 16) (hv : Value.okWide P w r b0 t v) (h : DataW.Trod enc P w base spare held t v d p)
    (hsz : ∀ n ∈ d.weights P t, n ≤ reachBytes) :
    ∃ (a : Option Addr) (len cap : Nat) (ss : List ByteArray), v = .slice a len cap ∧ len ≤ cap ∧ cap ≤ maxLen ∧ (a = none → cap = 0) ∧ len * 16 ≤ reachBytes ∧ SliceAt w a len (ss.map Value.string) ∧ ∀ s ∈ ss, s.size ≤ reachBytes := by
  obtain ⟨a0, len0, cap0, rfl⟩ := okWide_slice ht hv
  obtain ⟨fuel, hf⟩ := h
  rcases open_strings ht he hc hf with ⟨hcs, _⟩ | ⟨x, l, c, zs, hcs, _, hl, hm, hz, hx, hcell, _⟩
  · simp [Value.cells] at hcs
    obtain ⟨rfl, rfl, rfl⟩ := hcs
    exact ⟨none, 0, 0, [], rfl, Nat.le_refl _, Nat.zero_le _, fun _ => rfl, Nat.zero_le _, SliceAt.nil _ _, by simp⟩
  · simp [Value.cells] at hcs
    obtain ⟨rfl, rfl, rfl⟩ := hcs
    have hzl : len0 ≤ zs.length := by rw [hz]; split <;> omega
    have hd : d = .slice (strs (zs.take len0)) (strs (zs.drop len0)) := congrArg Prod.fst hx
    subst hd
    have hw : ∀ s ∈ zs, s.size ≤ reachBytes := by
      intro s hs
      apply hsz
      simp only [DataW.weights, ht]
      refine List.mem_cons_of_mem _ (List.mem_append.2 ?_)
      rw [← List.take_append_drop len0 zs] at hs
      rcases List.mem_append.1 hs with hs | hs
      · exact .inl (weightsAll_mem (d := .lit (.string s.data.toList)) (List.mem_map.2 ⟨s, hs, rfl⟩) _ (by simp [DataW.weights]))
      · exact .inr (weightsAll_mem (d := .lit (.string s.data.toList)) (List.mem_map.2 ⟨s, hs, rfl⟩) _ (by simp [DataW.weights]))
    have hlen : len0 * 16 ≤ reachBytes := by
      have := hsz _ (by simp only [DataW.weights, ht]; exact List.mem_cons_self ..)
      simp only [strs, List.length_map, List.length_take, List.length_drop, hby] at this
      omega
    refine ⟨some x, len0, cap0, zs.take len0, rfl, hl, hm, (fun h => by cases h), hlen, ?_, fun y hy => hw y (List.mem_of_mem_take hy)⟩
    have hcc : ∀ i, i < len0 → ∃ v, w.cell? (x.add i) = some v ∧ ((zs.take len0).map Value.string)[i]? = some v := by
      intro i hi
      have h2 : i < zs.length := by omega
      exact ⟨_, hcell i (by omega), by simp [List.getD_eq_getElem?_getD, hi, h2]⟩
    refine ⟨by simp; omega, ?_⟩
    by_cases h0 : len0 = 0
    · exact .inl h0
    · right
      obtain ⟨b, off, spot⟩ := x
      obtain ⟨v, h1, _⟩ := hcc 0 (by omega)
      have hspot : spot = none := by simpa [Addr.add] using World.cell?_spot h1
      subst hspot
      refine ⟨b, off, rfl, ?_, ?_⟩
      · have h2 : w.cell? ⟨b, off, none⟩ = some v := by simpa [Addr.add] using h1
        by_cases hh : b < w.heap.size
        · exact hh
        · unfold World.cell? at h2
          rw [Array.getElem?_eq_none (by simpa using hh)] at h2
          cases h2
      · intro i hi
        obtain ⟨u, h3, h4⟩ := hcc i hi
        have e1 : (⟨b, off, none⟩ : Addr).add i = ⟨b, off + i, none⟩ := by
          unfold Addr.add; split
          · rename_i h; subst h; rfl
          · rfl
        rw [e1] at h3
        rw [h3, h4]
end
end Go.Proofs.Ytefjpljjdjecjaa
