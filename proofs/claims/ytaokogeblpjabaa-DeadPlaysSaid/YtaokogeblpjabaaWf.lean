/- Drop. -/
import Derived.Test.YtaokogeblpjabaaWe
namespace Go.Proofs.Ytaokogeblpjabaa
open Go.RowKit Go.Shelf
def pGone (a m : Nat) : Bool := m.testBit a && decide (offM m a = 0)
def gone1 (f : Int → Nat) (L : List Int) (i a : Nat) : List Int := (L.take i).filter fun k => decide (offM (f k) a = 0)
theorem gone1_next {f : Int → Nat} {L : List Int} {i : Nat} {x : Int} (h : L[i]? = some x) (a : Nat) : gone1 f L (i + 1) a = if offM (f x) a = 0 then gone1 f L i a ++ [x] else gone1 f L i a := by
  unfold gone1
  rw [List.take_add_one, h, List.filter_append]
  by_cases e : offM (f x) a = 0 <;> simp [e]
theorem gone1_len (f : Int → Nat) (L : List Int) (i a : Nat) : (gone1 f L i a).length ≤ i := by
  unfold gone1
  refine Nat.le_trans (List.length_filter_le _ _) ?_
  rw [List.length_take]
  omega
theorem gone1_end (f : Int → Nat) {a : Nat} (ha : a < 7) : gone1 f (ofL f a) (ofL f a).length a = theL fun k => pGone a (f k) := by
  unfold gone1
  rw [List.take_length]
  unfold ofL
  rw [if_pos (by unfold okT; omega), Int.toNat_natCast]
  unfold theL
  rw [List.filter_filter]
  apply List.filter_congr
  intro k _
  unfold pGone pOf
  rw [Bool.and_comm]
def dropL (f : Int → Nat) (a : Int) : List Int := if okT a then theL fun k => pGone a.toNat (f k) else []
def dropE (a : Int) : Int := if okT a then 0 else 1
def dropF (f : Int → Nat) (a : Int) : Int → Nat := if okT a then dropF1 f a.toNat else f
theorem Fr.step {M M' : Nat → Prop} {w W W' : World} (h : Fr M w W) (k : Fr M' W W') (hm : ∀ j, j < w.heap.size → M' j → M j) : Fr M w W' :=
  ⟨k.os.trans h.os, k.tape.trans h.tape, k.output.trans h.output, Nat.le_trans h.size k.size, fun j hj hn => (k.block j (by have := h.size; omega) (fun h' => hn (hm j hj h'))).trans (h.block j hj hn)⟩
theorem own_fr3 {M : Nat → Prop} {B n cap : Nat} {l : List Int} {A : Option Addr} {w w' : World} (h : OwnI B l (.slice A n cap) w) (hf : Fr M w w') (hm : ∀ p, A = some p → ¬ M p.block) : OwnI B l (.slice A n cap) w' := by
  rcases h.2 with ⟨e, h0⟩ | ⟨g, c, cur, e, hg, hb, h1⟩
  · exact ⟨h.1, .inl ⟨e, h0⟩⟩
  · refine ⟨h.1, .inr ⟨g, c, cur, e, hg, ?_, h1⟩⟩
    cases e
    rw [hf.block g (Array.getElem?_eq_some_iff.1 hb).1 (hm _ rfl)]
    exact hb
theorem own_lt {B n cap : Nat} {l : List Int} {A : Option Addr} {w : World} (h : OwnI B l (.slice A n cap) w) : ∀ p, A = some p → p.block < w.heap.size := by
  intro p e
  rcases h.2 with ⟨e', h0⟩ | ⟨g, c, cur, e', hg, hb, h1⟩
  · cases e'; cases e
  · cases e'; cases e
    exact (Array.getElem?_eq_some_iff.1 hb).1
def DrI (w1 w2 w : World) (t b : Nat) (f : Int → Nat) (L : List Int) (a : Nat) (v l i : Value) (W : World) : Prop := ∃ n : Nat, n ≤ L.length ∧ i = .int .i64 n ∧ DT W t b (offF f L n a) ∧ OwnI w1.heap.size L v W ∧ OwnI w2.heap.size (gone1 f L n a) l W ∧ Fr (· = b) w W ∧ w2.heap.size ≤ W.heap.size
set_option maxHeartbeats 2000000 in
theorem drop_any (w : World) (t b : Nat) (f : Int → Nat) (h : DT w t b f) (a : Int) :
    Calls Try.prog 13 #[.pointer (some ⟨t, 0, none⟩), .int .i64 a] w fun e w' => ∃ v, e = .returned (.tuple #[v, .int .i64 (dropE a)]) ∧ OwnI w.heap.size (dropL f a) v w' ∧ DT w' t b (dropF f a) ∧ Fr (· = b) w w' := by
  have HN := Lib.hid (none_any w t b f h)
  have HT := Lib.hid (isTree_any w a)
  have HD := Lib.hid h
  clear h
  by_cases h1 : 0 ≤ a ∧ a ≤ 6
  · rw [decide_eq_true h1] at HT
    have e1 : dropE a = 0 := by simp [dropE, okT, h1]
    have e2 : dropF f a = dropF1 f a.toNat := by simp [dropF, okT, h1]
    have e3 : dropL f a = theL fun k => pGone a.toNat (f k) := by simp [dropL, okT, h1]
    rw [e1, e2, e3]
    obtain ⟨A, rfl⟩ : ∃ A : Nat, a = A := ⟨a.toNat, by omega⟩
    rw [Int.toNat_natCast]
    have HA : Hid (A < 7) := Lib.hid (by omega)
    clear e1 e2 e3 h1
    go_enter Try.func13, Try.ntmps13
    go_wp2_with fail
    refine HN.out.mono ?_
    rintro e w' ⟨rfl, hw⟩
    rw [hw]
    clear hw w'
    go_wp2_with fail
    refine HT.out.mono ?_
    rintro e w' ⟨rfl, hw⟩
    rw [hw]
    clear hw w'
    go_wp2_with fail
    refine (of_any w t b f HD.out A).mono ?_
    rintro e w2 ⟨v, rfl, ho, hb⟩
    have HD2 := Lib.hid (HD.out.next hb)
    have HB2 := Lib.hid hb
    have HLN : Hid ((ofL f A).length ≤ 8192) := Lib.hid (ofL_len f A)
    have HLS : Hid ((ofL f A).Pairwise (· < ·)) := Lib.hid (ofL_sorted f A)
    have HLM : Hid (∀ k, k ∈ ofL f A ↔ (f k).testBit A = true) := Lib.hid (fun k => ofL_mem HD.out.vm HA.out)
    have HLE : Hid (offF f (ofL f A) (ofL f A).length A = dropF1 f A) := Lib.hid (offF_end HD.out.vm HA.out)
    have HLG : Hid (gone1 f (ofL f A) (ofL f A).length A = theL fun k => pGone A (f k)) := Lib.hid (gone1_end f HA.out)
    have HSZ : Hid (b < w.heap.size ∧ t < w.heap.size) := Lib.hid (by have := HD.out.lt; omega)
    have HVM := Lib.hid HD.out.vm
    clear hb HN HT HD
    generalize ofL f A = L at *
    obtain ⟨ad, cap, rfl⟩ := ho.shape
    have HO := Lib.hid ho
    have HAD := Lib.hid (own_lt ho)
    clear ho
    have hl8 : L.length ≤ 8192 := HLN.out
    have k00 : offF f L 0 A = f := by funext k; simp [offF]
    have HF2 : Hid (Fr (· = b) w w2) := Lib.hid (Fr.of_below HB2.out)
    have HD2' : Hid (DT w2 t b (offF f L 0 A)) := Lib.hid (by rw [k00]; exact HD2.out)
    clear k00 HD2
    generalize hn : L.length = n at *
    have HN := Lib.hid hn
    clear hn
    go_wp2_with fail
    go_loopw [6, 20] (fun l i wr => DrI w w2 w t b f L A (.slice ad n cap) l i wr) (fun _ i _ => n - (intOf i).toNat)
    case atStart => exact ⟨0, by omega, rfl, HD2'.out, HO.out, OwnI.nil _ _, HF2.out, Nat.le_refl _⟩
    case round =>
      obtain ⟨i, hi, rfl, hd, ho, hg, hf, hz⟩ := hrel
      rw [HN.out] at hi
      clear HD2' HO HF2
      have HDi := Lib.hid hd
      have HO := Lib.hid ho
      have HGo := Lib.hid hg
      have HF2 := Lib.hid hf
      have HZ := Lib.hid hz
      clear hd ho hg hf hz
      by_cases hlt : i < n
      · have hlt' : (i : Int) < (n : Int) := by omega
        have k0 : (0 : Int) ≤ (i : Int) := by omega
        obtain ⟨x, hx⟩ : ∃ x, L[i]? = some x := ⟨L[i]'(by rw [HN.out]; exact hlt), List.getElem?_eq_getElem _⟩
        obtain ⟨g, rfl, hg, hgl, hcell, _⟩ := HO.out.at i x hx
        have HX := Lib.hid hx
        have HBIT : Hid ((f x).testBit A = true) := Lib.hid ((HLM.out x).1 (List.mem_of_getElem? hx))
        have HK : Hid (2 ≤ x ∧ x < 8192) := Lib.hid (HVM.out.dom x (fun e => by have := HBIT.out; rw [e] at this; simp at this))
        obtain ⟨q1, q2⟩ := offF_next HLS.out hx A (f := f)
        have c0 := HDi.out.c0
        have hl := HDi.out.look x
        rw [q1] at hl
        have HL := Lib.hid hl
        have hs := set_without wr t b (offF f L i A) HDi.out x HK.out (f x) A (HVM.out.lt x) HA.out
        rw [q2] at hs
        have HS := Lib.hid hs
        have HXM : Hid (offF f L (i + 1) A x = offM (f x) A) := Lib.hid (by rw [← q2]; simp [updI])
        have HGN := Lib.hid (gone1_next (f := f) hx A)
        have HGL : Hid ((gone1 f L i A).length ≤ 8192) := Lib.hid (by have := gone1_len f L i A; omega)
        clear hx hg hgl q1 q2 hl hs
        go_wp2_with (at_lookup; refine wpList_look rfl rfl rfl rfl HL.out ?_)
        refine HS.out.mono ?_
        rintro e w3 ⟨rfl, hd, hf⟩
        have HD3 := Lib.hid hd
        have HF3 : Hid (Fr (· = b) w w3) := Lib.hid (HF2.out.trans hf)
        have HO3 : Hid (OwnI w.heap.size L (.slice (some ⟨g, 0, none⟩) n cap) w3) := Lib.hid (own_fr HO.out hf (fun k e => by have := HSZ.out; omega))
        have HGo3 : Hid (OwnI w2.heap.size (gone1 f L i A) u6 w3) := Lib.hid (own_fr HGo.out hf (fun k e => by have := HSZ.out; have := HB2.out.size; omega))
        have HZ3 : Hid (w2.heap.size ≤ w3.heap.size) := Lib.hid (by have := HZ.out; have := hf.size; omega)
        have hl := hd.look_ok x
        rw [HXM.out] at hl
        have HL2 := Lib.hid hl
        have c0 := hd.c0
        clear hd hf hcell HL HS hl
        by_cases hz : offM (f x) A = 0
        · rw [if_pos hz] at HGN
          rw [hz] at HL2
          rw [show decide ((0 : Nat) ≠ 0) = false from by simp] at HL2
          clear hz
          have hnew : RowAt (w3.alloc (.cells #[.int .i64 x] 3)) w3.heap.size 3 [.int .i64 x] := RowAt.new w3 3 _
          obtain ⟨ii, z, e1, e2, e3, e4, e5⟩ := info3
          obtain ⟨v', w', hrun, ho', _, _, hb'⟩ := run_app (P := Try.prog) (w3.alloc (.cells #[.int .i64 x] 3)) w2.heap.size 26 26 3 ii z 8 Try.underlying26 e1 e2 e3 e4 e5 u6 (gone1 f L i A).length _ (HGo3.out.alloc _) (some ⟨w3.heap.size, 0, none⟩) 1 1 [.int .i64 x] (SliceAt.row hnew) (fun h => by cases h) (fun u hu => by simp at hu; subst hu; rfl) (by have := HGL.out; unfold maxLen; omega) (by have := HGL.out; omega) (by have := HZ3.out; simp; omega)
          have hal : Below w3.heap.size w3 (w3.alloc (.cells #[.int .i64 x] 3)) := (Below.refl _ _).alloc (Nat.le_refl _) _
          have hfb : Fr (fun j => w2.heap.size ≤ j) w3 w' := (Fr.of_below hal).trans (Fr.of_belowB hb')
          have HRUN := Lib.hid hrun
          have HGo4 : Hid (OwnI w2.heap.size (gone1 f L (i + 1) A) v' w') := Lib.hid (by
            rw [HGN.out]
            unfold OwnI
            rw [List.length_append, List.map_append]
            exact ho')
          have HBL := HB2.out.size
          have HD4 : Hid (DT w' t b (offF f L (i + 1) A)) := Lib.hid (HD3.out.fr hfb (by have := HSZ.out; omega) (by have := HSZ.out; omega))
          have HO4 : Hid (OwnI w.heap.size L (.slice (some ⟨g, 0, none⟩) n cap) w') := Lib.hid (own_fr3 HO3.out hfb (fun p e => by have := HAD.out p e; omega))
          have HF4 : Hid (Fr (· = b) w w') := Lib.hid (HF3.out.step hfb (fun j hj hm => by omega))
          have HZ4 : Hid (w2.heap.size ≤ w'.heap.size) := Lib.hid (by have := HZ3.out; have := hfb.size; omega)
          clear hnew hrun ho' hb' e1 e2 e3 e4 e5 hal hfb HBL
          go_wp2_with (first
            | (at_lookup; refine wpList_look rfl rfl rfl rfl HL2.out ?_)
            | (at_builtin; refine wpList_app rfl (.tmp 46) (.tmp 48) 26 26 rfl rfl HRUN.out rfl rfl ?_))
          go_roundw
          case rel => exact ⟨i + 1, by rw [HN.out]; omega, by go_num, HD4.out, HO4.out, HGo4.out, HF4.out, HZ4.out⟩
          case measure => simp [intOf]; omega
        · rw [if_neg hz] at HGN
          rw [show decide (offM (f x) A ≠ 0) = true from by simpa using hz] at HL2
          clear hz
          generalize offM (f x) A = M at *
          go_wp2_with (at_lookup; refine wpList_look rfl rfl rfl rfl HL2.out ?_)
          go_roundw
          case rel => exact ⟨i + 1, by rw [HN.out]; omega, by go_num, HD3.out, HO3.out, by rw [HGN.out]; exact HGo3.out, HF3.out, HZ3.out⟩
          case measure => simp [intOf]; omega
      · obtain rfl : i = n := by omega
        have HDE : Hid (DT wr t b (dropF1 f A)) := Lib.hid (by rw [← HLE.out]; exact HDi.out)
        have HGE : Hid (OwnI w.heap.size (theL fun k => pGone A (f k)) u6 wr) := Lib.hid (by rw [← HLG.out]; exact HGo.out.mono HB2.out.size)
        go_wp2_with fail
        all_goals refine bodyPost_ret (by simp [results, Try.results13, go_sem]; rfl) rfl ?_
        all_goals exact ⟨_, rfl, HGE.out, HDE.out, HF2.out⟩
  · have e1 : dropE a = 1 := by simp [dropE, okT, h1]
    have e2 : dropF f a = f := by simp [dropF, okT, h1]
    have e3 : dropL f a = [] := by simp [dropL, okT, h1]
    rw [e1, e2, e3]
    rw [decide_eq_false h1] at HT
    clear e1 e2 e3 h1
    go_enter Try.func13, Try.ntmps13
    go_wp2_with fail
    refine HN.out.mono ?_
    rintro e w' ⟨rfl, hw⟩
    rw [hw]
    clear hw w'
    go_wp2_with fail
    refine HT.out.mono ?_
    rintro e w' ⟨rfl, hw⟩
    rw [hw]
    clear hw w'
    go_wp2_with fail
    all_goals refine bodyPost_ret (by simp [results, Try.results13, go_sem]; rfl) rfl ?_
    all_goals exact ⟨_, rfl, OwnI.nil _ _, HD.out, Fr.refl _ _⟩
end Go.Proofs.Ytaokogeblpjabaa
