/- The document's table and the program's: the relation; Need, Who, Give. -/
import Derived.Test.YtaokogeblpjabaaXc
namespace Go.Proofs.Ytaokogeblpjabaa
open Go.RowKit
structure Rel (f : Int → Nat) (L : List Pr) : Prop where
  vm : Vm f
  nd : L.Nodup
  mem : ∀ a k, (a, k) ∈ L ↔ (okT a ∧ (f k).testBit a.toNat = true)
theorem nodup_le2 : ∀ (l l' : List Pr), l.Nodup → l ⊆ l' → l.length ≤ l'.length
  | [], _, _, _ => Nat.zero_le _
  | x :: l, l', h1, h2 => by
    obtain ⟨a1, a2⟩ := List.nodup_cons.1 h1
    have hx : x ∈ l' := h2 (List.mem_cons_self ..)
    have := nodup_le2 l (l'.erase x) a2 (fun y hy => (List.mem_erase_of_ne (fun e => a1 (by rw [← e]; exact hy))).2 (h2 (List.mem_cons_of_mem _ hy)))
    rw [List.length_erase_of_mem hx] at this
    have : 0 < l'.length := List.length_pos_of_mem hx
    simp only [List.length_cons]
    omega
theorem flatMap_len {α β : Type} (F : α → List β) (n : Nat) : ∀ l : List α, (∀ x ∈ l, (F x).length = n) → (l.flatMap F).length = l.length * n
  | [], _ => by simp
  | x :: l, h => by
    rw [List.flatMap_cons, List.length_append, flatMap_len F n l (fun y hy => h y (List.mem_cons_of_mem _ hy)), h x (List.mem_cons_self ..), List.length_cons, Nat.add_mul]
    omega
def allPr : List Pr := (List.range 7).flatMap fun a : Nat => (List.range 8192).map fun k : Nat => ((a : Int), (k : Int))
theorem allPr_len : allPr.length = 57344 := by
  unfold allPr
  rw [flatMap_len _ 8192 _ (fun x _ => by rw [List.length_map, List.length_range]), List.length_range]
theorem Rel.len {f : Int → Nat} {L : List Pr} (h : Rel f L) : L.length ≤ 60000 := by
  have hs : L ⊆ allPr := fun p hp => by
    obtain ⟨a, k⟩ := p
    obtain ⟨h1, h2⟩ := (h.mem a k).1 hp
    have h0 : f k ≠ 0 := fun e => by rw [e] at h2; simp at h2
    have hd := h.vm.dom k h0
    unfold okT at h1
    unfold allPr
    rw [List.mem_flatMap]
    exact ⟨a.toNat, by rw [List.mem_range]; omega, by
      rw [List.mem_map]
      exact ⟨k.toNat, by rw [List.mem_range]; omega, by
        rw [Prod.mk.injEq]
        exact ⟨by omega, by omega⟩⟩⟩
  have := nodup_le2 L allPr h.nd hs
  rw [allPr_len] at this
  omega
theorem rel_nil : Rel (fun _ => 0) [] := ⟨vm_none, List.nodup_nil, fun a k => by simp⟩
theorem Rel.in_tree {f : Int → Nat} {L : List Pr} (h : Rel f L) {a k : Int} (ha : okT a) : (a, k) ∈ L ↔ (f k).testBit a.toNat = true := by
  rw [h.mem]; exact ⟨fun x => x.2, fun x => ⟨ha, x⟩⟩
theorem Rel.need {f : Int → Nat} {L : List Pr} (h : Rel f L) (a k : Int) : pneedE L a k = needE f a k ∧ Rel (needF f a k) (pneedL L a k) := by
  unfold pneedE needE needF pneedL
  by_cases ho : okT a ∧ okB k
  · rw [if_pos ho, if_pos ho, if_pos ho]
    have hi := h.in_tree (k := k) ho.1
    by_cases hb : (f k).testBit a.toNat = true
    · rw [if_pos (hi.2 hb), if_pos hb, if_pos hb, if_neg (fun x => x.2.2 (hi.2 hb))]
      exact ⟨rfl, h⟩
    · have hn : (a, k) ∉ L := fun x => hb (hi.1 x)
      rw [if_neg hn, if_neg hb, if_neg hb, if_pos ⟨ho.1, ho.2, hn⟩]
      have ha : a.toNat < 7 := by have := ho.1; unfold okT at this; omega
      refine ⟨rfl, ⟨h.vm.upd ho.2 (on_lt (h.vm.lt k) ha), ?_, fun a' k' => ?_⟩⟩
      · rw [List.nodup_append]
        refine ⟨h.nd, by simp, fun x hx y hy e => ?_⟩
        rw [List.mem_singleton] at hy
        exact hn (by rw [← hy, ← e]; exact hx)
      · rw [List.mem_append, List.mem_singleton, Prod.mk.injEq, h.mem]
        unfold updI
        by_cases ek : k' = k
        · subst ek
          rw [if_pos rfl]
          constructor
          · rintro (⟨h1, h2⟩ | ⟨rfl, _⟩)
            · have h7 : a'.toNat < 7 := by unfold okT at h1; omega
              exact ⟨h1, by rw [on_has (h.vm.lt k') ha h7, h2]; simp⟩
            · exact ⟨ho.1, by rw [on_has (h.vm.lt k') ha ha]; simp⟩
          · rintro ⟨h1, h2⟩
            have h7 : a'.toNat < 7 := by unfold okT at h1; omega
            rw [on_has (h.vm.lt k') ha h7, Bool.or_eq_true, decide_eq_true_eq] at h2
            rcases h2 with h2 | h2
            · right
              have := ho.1
              unfold okT at this h1
              exact ⟨by omega, rfl⟩
            · exact .inl ⟨h1, h2⟩
        · rw [if_neg ek]
          simp [ek]
  · rw [if_neg ho, if_neg ho, if_neg ho, if_neg (fun x => ho ⟨x.1, x.2.1⟩)]
    exact ⟨rfl, h⟩
theorem Rel.give {f : Int → Nat} {L : List Pr} (h : Rel f L) {a k : Int} (ho : okT a ∧ okB k) {i : Nat} (hi : L[i]? = some (a, k)) : giveE f a k = 0 ∧ giveR f a k = decide (offM (f k) a.toNat = 0) ∧ giveF f a k = updI f k (offM (f k) a.toNat) ∧ Rel (giveF f a k) (L.eraseIdx i) := by
  have hin : (a, k) ∈ L := List.mem_of_getElem? hi
  have hb := (h.in_tree (k := k) ho.1).1 hin
  have ha : a.toNat < 7 := by have := ho.1; unfold okT at this; omega
  have e1 : giveE f a k = 0 := by unfold giveE; rw [if_pos ho, if_pos hb]
  have e2 : giveR f a k = decide (offM (f k) a.toNat = 0) := by unfold giveR; rw [if_pos ho, if_pos hb]
  have e3 : giveF f a k = updI f k (offM (f k) a.toNat) := by unfold giveF; rw [if_pos ho, if_pos hb]
  refine ⟨e1, e2, e3, ?_⟩
  rw [e3]
  have hlt : i < L.length := (List.getElem?_eq_some_iff.1 hi).1
  have hmem : ∀ p, p ∈ L.eraseIdx i ↔ p ∈ L ∧ p ≠ (a, k) := by
    intro p
    rw [List.mem_eraseIdx_iff_getElem?]
    constructor
    · rintro ⟨j, hj, e⟩
      refine ⟨List.mem_of_getElem? e, fun ep => hj ?_⟩
      rw [ep] at e
      obtain ⟨j1, j2⟩ := List.getElem?_eq_some_iff.1 e
      obtain ⟨i1, i2⟩ := List.getElem?_eq_some_iff.1 hi
      exact (List.getElem_inj (h₀ := j1) (h₁ := i1) h.nd).1 (by rw [j2, i2])
    · rintro ⟨h1, h2⟩
      obtain ⟨j, hj, e⟩ := List.mem_iff_getElem.1 h1
      refine ⟨j, fun ej => h2 ?_, by rw [List.getElem?_eq_getElem hj, e]⟩
      subst ej
      rw [List.getElem?_eq_getElem hj, e] at hi
      simpa using hi
  refine ⟨h.vm.upd ho.2 (off_lt (h.vm.lt k) ha), h.nd.sublist (List.eraseIdx_sublist ..), fun a' k' => ?_⟩
  rw [hmem, h.mem]
  unfold updI
  by_cases ek : k' = k
  · subst ek
    rw [if_pos rfl]
    constructor
    · rintro ⟨⟨h1, h2⟩, h3⟩
      have h7 : a'.toNat < 7 := by unfold okT at h1; omega
      refine ⟨h1, ?_⟩
      rw [off_has (h.vm.lt k') ha h7, h2]
      have : a'.toNat ≠ a.toNat := fun e => h3 (by
        have := ho.1
        unfold okT at this h1
        rw [Prod.mk.injEq]
        exact ⟨by omega, rfl⟩)
      simp [this]
    · rintro ⟨h1, h2⟩
      have h7 : a'.toNat < 7 := by unfold okT at h1; omega
      rw [off_has (h.vm.lt k') ha h7, Bool.and_eq_true] at h2
      refine ⟨⟨h1, h2.2⟩, fun e => ?_⟩
      rw [Prod.mk.injEq] at e
      rw [e.1] at h2
      simp at h2
  · rw [if_neg ek]
    constructor
    · exact fun x => x.1
    · exact fun x => ⟨x, fun e => ek (by rw [Prod.mk.injEq] at e; exact e.2)⟩
/-- The document's table in memory, of what the program's is. -/
def RX (W : World) (q g : Nat) (f : Int → Nat) : Prop := ∃ L, XT W q g L ∧ Rel f L
theorem RX.fr {M : Nat → Prop} {W W' : World} {q g : Nat} {f : Int → Nat} (h : RX W q g f) (hf : Fr M W W') (h1 : ¬ M q) (h2 : ¬ M g) : RX W' q g f := by
  obtain ⟨L, hx, hr⟩ := h
  exact ⟨L, hx.fr hf h1 h2, hr⟩
theorem RX.next {W W' : World} {q g : Nat} {f : Int → Nat} (h : RX W q g f) (hb : Below W.heap.size W W') : RX W' q g f := by
  obtain ⟨L, hx, hr⟩ := h
  exact ⟨L, hx.next hb, hr⟩
theorem RX.lt {W : World} {q g : Nat} {f : Int → Nat} (h : RX W q g f) : q < W.heap.size := by
  obtain ⟨L, hx, hr⟩ := h
  exact hx.lt
theorem RX.vm {W : World} {q g : Nat} {f : Int → Nat} (h : RX W q g f) : Vm f := by
  obtain ⟨L, hx, hr⟩ := h
  exact hr.vm
def RGo (w : World) (q g : Nat) (f' : Int → Nat) (w' : World) : Prop := ∃ g', RX w' q g' f' ∧ Fr (QG q g) w w' ∧ (g' = g ∨ w.heap.size ≤ g')
theorem RGo.same {w w' : World} {q g : Nat} {f : Int → Nat} (h : RX w q g f) (hb : Below w.heap.size w w') : RGo w q g f w' := ⟨g, h.next hb, Fr.of_below hb, .inl rfl⟩
theorem RGo.next {w w' w'' : World} {q g : Nat} {f : Int → Nat} (h : RGo w q g f w') (hb : Below w'.heap.size w' w'') : RGo w q g f w'' := by
  obtain ⟨g', h1, h2, h3⟩ := h
  exact ⟨g', h1.next hb, h2.trans (Fr.of_below hb), h3⟩
theorem RGo.trans {w w' w'' : World} {q g : Nat} {f : Int → Nat} (hb : Below w.heap.size w w') (h : RGo w' q g f w'') : RGo w q g f w'' := by
  obtain ⟨g', h1, h2, h3⟩ := h
  exact ⟨g', h1, (Fr.of_below hb).trans h2, h3.imp id (fun e => Nat.le_trans hb.size e)⟩
theorem XGo.rel {w w' : World} {q g : Nat} {f : Int → Nat} {L : List Pr} (h : XGo w q g L w') (hr : Rel f L) : RGo w q g f w' := by
  obtain ⟨g', h1, h2, h3⟩ := h
  exact ⟨g', ⟨L, h1, hr⟩, h2, h3⟩
theorem rneed_any (w : World) (q g : Nat) (f : Int → Nat) (h : RX w q g f) (a k : Int) :
    Calls Try.prog 31 #[.pointer (some ⟨q, 0, none⟩), .int .i64 a, .int .i64 k] w fun e w' => e = .returned (.int .i64 (needE f a k)) ∧ RGo w q g (needF f a k) w' := by
  obtain ⟨L, hx, hr⟩ := h
  obtain ⟨e1, e2⟩ := hr.need a k
  refine (pneed_any w q g L hx hr.len a k).mono fun e w' ⟨he, hg⟩ => ⟨by rw [← e1]; exact he, hg.rel e2⟩
theorem rwho_any (w : World) (q g : Nat) (f : Int → Nat) (h : RX w q g f) (k : Int) :
    Calls Try.prog 37 #[.pointer (some ⟨q, 0, none⟩), .int .i64 k] w fun e w' => ∃ v, e = .returned v ∧ OwnI w.heap.size (whoK 7 (f k)) v w' ∧ Below w.heap.size w w' := by
  obtain ⟨L, hx, hr⟩ := h
  exact pwho_any w q g L hx hr.len k (f k) fun c hc => by rw [hr.in_tree (by unfold okT; omega), Int.toNat_natCast]
set_option maxHeartbeats 1000000 in
theorem rgive_any (w : World) (q g : Nat) (f : Int → Nat) (h : RX w q g f) (a k : Int) :
    Calls Try.prog 32 #[.pointer (some ⟨q, 0, none⟩), .int .i64 a, .int .i64 k] w fun e w' => e = .returned (.tuple #[.bool (giveR f a k), .int .i64 (giveE f a k)]) ∧ RGo w q g (giveF f a k) w' := by
  obtain ⟨L, hx, hr⟩ := h
  have HT := Lib.hid (tree_any w a)
  have HK := Lib.hid (block_any w k)
  have HX := Lib.hid hx
  have HRel := Lib.hid hr
  clear hx hr
  by_cases h1 : 0 ≤ a ∧ a ≤ 6
  · by_cases h2 : 2 ≤ k ∧ k < 8192
    · rw [decide_eq_true h1] at HT
      rw [decide_eq_true h2] at HK
      have HO : Hid (okT a ∧ okB k) := Lib.hid ⟨h1, h2⟩
      clear h1 h2
      go_enter Try.func32, Try.ntmps32
      go_wp2_with fail
      refine HT.out.mono ?_
      rintro e w' ⟨rfl, hw⟩
      rw [hw]
      clear hw w'
      go_wp2_with fail
      refine HK.out.mono ?_
      rintro e w' ⟨rfl, hw⟩
      rw [hw]
      clear hw w' HT HK
      go_wp2_with fail
      refine (at_any w q g L HX.out HRel.out.len a k).mono ?_
      rintro e w1 ⟨r, rfl, hr, hb⟩
      have HX1 := Lib.hid (HX.out.next hb)
      have HB1 := Lib.hid hb
      have HR := Lib.hid hr
      clear hb hr
      cases r with
      | none =>
        have HV : Hid (giveE f a k = 5 ∧ giveR f a k = false ∧ giveF f a k = f) := Lib.hid (by
          have hb : ¬ (f k).testBit a.toNat = true := fun x => (show (a, k) ∉ L from HR.out) ((HRel.out.in_tree HO.out.1).2 x)
          exact ⟨by unfold giveE; rw [if_pos HO.out, if_neg hb], by unfold giveR; rw [if_pos HO.out, if_neg hb], by unfold giveF; rw [if_pos HO.out, if_neg hb]⟩)
        have e1 : decide (atE none < 0) = true := by simp [atE]
        generalize atE none = I at *
        go_wp2_with fail
        all_goals refine bodyPost_ret (by simp [results, Try.results32, go_sem]; rfl) rfl ?_
        all_goals exact ⟨by rw [HV.out.1, HV.out.2.1], by rw [HV.out.2.2]; exact RGo.same ⟨L, HX.out, HRel.out⟩ HB1.out⟩
      | some i =>
        have HI : Hid (L[i]? = some (a, k)) := Lib.hid HR.out
        have e1 : decide (atE (some i) < 0) = false := decide_eq_false (by show ¬ ((i : Int) < 0); omega)
        have e2 : atE (some i) = (i : Int) := rfl
        obtain ⟨q1, q2, q3, q4⟩ := HRel.out.give HO.out HI.out
        have HQ := Lib.hid q2
        have HQ1 := Lib.hid q1
        have HQ4 := Lib.hid q4
        have HQ3 := Lib.hid q3
        rw [e2] at e1 ⊢
        clear e2 q1 q2 q3 q4 HR
        go_wp2_with fail
        refine (cut_any w1 q g L HX1.out HRel.out.len i (List.getElem?_eq_some_iff.1 HI.out).1).mono ?_
        rintro e w2 ⟨rfl, hg⟩
        have HG := Lib.hid (hg.rel HQ4.out)
        obtain ⟨g', hx2, _, _⟩ := hg.rel HQ4.out
        have HX2 := Lib.hid hx2
        clear hg hx2
        go_wp2_with fail
        refine (rwho_any w2 q g' _ HX2.out k).mono ?_
        rintro e w3 ⟨v, rfl, ho, hb⟩
        obtain ⟨va, vc, rfl⟩ := ho.shape
        have HP : Hid (RGo w q g (giveF f a k) w3) := Lib.hid (RGo.trans HB1.out (HG.out.next hb))
        have hlen : (((whoK 7 (giveF f a k k)).length : Int) == 0) = giveR f a k := by
          rw [HQ.out, HQ3.out]
          have e : updI f k (offM (f k) a.toNat) k = offM (f k) a.toNat := by simp [updI]
          rw [e]
          have hw := whoK_nil (off_lt (HRel.out.vm.lt k) (show a.toNat < 7 by have := HO.out.1; unfold okT at this; omega))
          rw [Bool.eq_iff_iff, beq_iff_eq, decide_eq_true_eq, ← hw]
          constructor
          · intro h; exact List.eq_nil_of_length_eq_zero (by omega)
          · intro h; rw [h]; rfl
        clear ho hb
        generalize (whoK 7 (giveF f a k k)).length = wl at *
        obtain ⟨gr, hgr⟩ : ∃ gr, gr = giveR f a k := ⟨_, rfl⟩
        rw [← hgr] at hlen
        have HGR := Lib.hid hgr
        clear hgr
        go_wp2_with fail
        all_goals refine bodyPost_ret (by simp [results, Try.results32, go_sem]; rfl) rfl ?_
        all_goals exact ⟨by rw [HQ1.out, HGR.out], HP.out⟩
    · rw [decide_eq_true h1] at HT
      rw [decide_eq_false h2] at HK
      have HO : Hid (¬ (okT a ∧ okB k)) := Lib.hid (fun x => h2 x.2)
      clear h1 h2
      go_enter Try.func32, Try.ntmps32
      go_wp2_with fail
      refine HT.out.mono ?_
      rintro e w' ⟨rfl, hw⟩
      rw [hw]
      clear hw w'
      go_wp2_with fail
      refine HK.out.mono ?_
      rintro e w' ⟨rfl, hw⟩
      rw [hw]
      clear hw w' HT HK
      go_wp2_with fail
      all_goals refine bodyPost_ret (by simp [results, Try.results32, go_sem]; rfl) rfl ?_
      all_goals exact ⟨by unfold giveE giveR; rw [if_neg HO.out, if_neg HO.out], by unfold giveF; rw [if_neg HO.out]; exact RGo.same ⟨L, HX.out, HRel.out⟩ (Below.refl _ _)⟩
  · rw [decide_eq_false h1] at HT
    have HO : Hid (¬ (okT a ∧ okB k)) := Lib.hid (fun x => h1 x.1)
    clear h1
    go_enter Try.func32, Try.ntmps32
    go_wp2_with fail
    refine HT.out.mono ?_
    rintro e w' ⟨rfl, hw⟩
    rw [hw]
    clear hw w' HT HK
    go_wp2_with fail
    all_goals refine bodyPost_ret (by simp [results, Try.results32, go_sem]; rfl) rfl ?_
    all_goals exact ⟨by unfold giveE giveR; rw [if_neg HO.out, if_neg HO.out], by unfold giveF; rw [if_neg HO.out]; exact RGo.same ⟨L, HX.out, HRel.out⟩ (Below.refl _ _)⟩
end Go.Proofs.Ytaokogeblpjabaa
