/- Like, Drop. -/
import Derived.Test.YtaokogeblpjabaaWd
namespace Go.Proofs.Ytaokogeblpjabaa
open Go.RowKit Go.Shelf
theorem OwnI.at {B : Nat} {l : List Int} {A : Option Addr} {n cap : Nat} {w : World} (h : OwnI B l (.slice A n cap) w) (i : Nat) (x : Int) (hx : l[i]? = some x) :
    ∃ g, A = some ⟨g, 0, none⟩ ∧ B ≤ g ∧ g < w.heap.size ∧ w.cell? ⟨g, i, none⟩ = some (.int .i64 x) ∧ w.frozen? ⟨g, i, none⟩ = false := by
  have hi : i < l.length := (List.getElem?_eq_some_iff.1 hx).1
  rcases h.2 with ⟨e, h0⟩ | ⟨g, cap', cur, e, hg, hb, h1, h2, h3, h4⟩
  · omega
  · cases e
    refine ⟨g, rfl, hg, (Array.getElem?_eq_some_iff.1 hb).1, ?_, by simp [World.frozen?, hb]⟩
    have hc := (show w.ownsRow B 3 1 (.slice (some ⟨g, 0, none⟩) _ _) _ _ from h).cellAt i (by omega)
    rw [hc, List.getElem?_map, hx]
    rfl
theorem OwnI.len {B : Nat} {l : List Int} {A : Option Addr} {n cap : Nat} {w : World} (h : OwnI B l (.slice A n cap) w) : n = l.length := by
  obtain ⟨a, c, e⟩ := h.shape
  cases e; rfl
def onF (f : Int → Nat) (L : List Int) (i c : Nat) : Int → Nat := fun k => if k ∈ L.take i then onM (f k) c else f k
def offF (f : Int → Nat) (L : List Int) (i a : Nat) : Int → Nat := fun k => if k ∈ L.take i then offM (f k) a else f k
theorem take_succ_mem {L : List Int} {i : Nat} {x : Int} (h : L[i]? = some x) (k : Int) : k ∈ L.take (i + 1) ↔ k ∈ L.take i ∨ k = x := by
  rw [List.take_add_one, h]; simp
theorem not_mem_take {L : List Int} (hs : L.Pairwise (· < ·)) {i : Nat} {x : Int} (h : L[i]? = some x) : x ∉ L.take i := by
  intro hm
  obtain ⟨j, hj, e⟩ := List.mem_take_iff_getElem.1 hm
  obtain ⟨hi, e2⟩ := List.getElem?_eq_some_iff.1 h
  have := List.pairwise_iff_getElem.1 hs j i (by omega) hi (by omega)
  omega
theorem onF_next {f : Int → Nat} {L : List Int} (hs : L.Pairwise (· < ·)) {i : Nat} {x : Int} (h : L[i]? = some x) (c : Nat) : onF f L i c x = f x ∧ updI (onF f L i c) x (onM (f x) c) = onF f L (i + 1) c := by
  refine ⟨by unfold onF; rw [if_neg (not_mem_take hs h)], ?_⟩
  funext k
  unfold updI onF
  by_cases e : k = x
  · subst e
    rw [if_pos rfl, if_pos ((take_succ_mem h k).2 (.inr rfl))]
  · rw [if_neg e]
    by_cases hk : k ∈ L.take i
    · rw [if_pos hk, if_pos ((take_succ_mem h k).2 (.inl hk))]
    · rw [if_neg hk, if_neg (fun h' => ((take_succ_mem h k).1 h').elim hk e)]
theorem offF_next {f : Int → Nat} {L : List Int} (hs : L.Pairwise (· < ·)) {i : Nat} {x : Int} (h : L[i]? = some x) (c : Nat) : offF f L i c x = f x ∧ updI (offF f L i c) x (offM (f x) c) = offF f L (i + 1) c := by
  refine ⟨by unfold offF; rw [if_neg (not_mem_take hs h)], ?_⟩
  funext k
  unfold updI offF
  by_cases e : k = x
  · subst e
    rw [if_pos rfl, if_pos ((take_succ_mem h k).2 (.inr rfl))]
  · rw [if_neg e]
    by_cases hk : k ∈ L.take i
    · rw [if_pos hk, if_pos ((take_succ_mem h k).2 (.inl hk))]
    · rw [if_neg hk, if_neg (fun h' => ((take_succ_mem h k).1 h').elim hk e)]
theorem ofL_mem {f : Int → Nat} (hv : Vm f) {a : Nat} (ha : a < 7) {k : Int} : k ∈ ofL f a ↔ (f k).testBit a = true := by
  unfold ofL
  rw [if_pos (by unfold okT; omega), mem_theL, Int.toNat_natCast]
  unfold pOf
  constructor
  · exact fun h => h.2.2
  · intro h
    have h0 : f k ≠ 0 := fun e => by rw [e] at h; simp at h
    have := hv.dom k h0
    exact ⟨by omega, by omega, h⟩
theorem ofL_sorted (f : Int → Nat) (a : Int) : (ofL f a).Pairwise (· < ·) := by
  unfold ofL
  split
  · exact theL_sorted _
  · exact List.Pairwise.nil
theorem ofL_len (f : Int → Nat) (a : Int) : (ofL f a).length ≤ 8192 := by
  unfold ofL
  split
  · exact theL_len _
  · simp
def likeF1 (f : Int → Nat) (a c : Nat) : Int → Nat := fun k => if (f k).testBit a then onM (f k) c else f k
theorem onF_end {f : Int → Nat} (hv : Vm f) {a c : Nat} (ha : a < 7) : onF f (ofL f a) (ofL f a).length c = likeF1 f a c := by
  funext k
  unfold onF likeF1
  rw [List.take_length]
  by_cases h : (f k).testBit a = true
  · rw [if_pos ((ofL_mem hv ha).2 h), if_pos h]
  · rw [if_neg (fun h' => h ((ofL_mem hv ha).1 h')), if_neg h]
def dropF1 (f : Int → Nat) (a : Nat) : Int → Nat := fun k => offM (f k) a
theorem offF_end {f : Int → Nat} (hv : Vm f) {a : Nat} (ha : a < 7) : offF f (ofL f a) (ofL f a).length a = dropF1 f a := by
  funext k
  unfold offF dropF1
  rw [List.take_length]
  by_cases h : (f k).testBit a = true
  · rw [if_pos ((ofL_mem hv ha).2 h)]
  · rw [if_neg (fun h' => h ((ofL_mem hv ha).1 h'))]
    unfold offM
    rw [if_neg h]
def okL (a c : Int) : Prop := okT a ∧ okT c ∧ a ≠ c
instance (a c : Int) : Decidable (okL a c) := by unfold okL; infer_instance
def likeE (f : Int → Nat) (a c : Int) : Int := if okL a c then (if ofL f c = [] then 0 else 50) else 1
def likeF (f : Int → Nat) (a c : Int) : Int → Nat := if okL a c ∧ ofL f c = [] then likeF1 f a.toNat c.toNat else f
def LkI (w0 w : World) (t b : Nat) (f : Int → Nat) (L : List Int) (c : Nat) (v i : Value) (W : World) : Prop := ∃ n : Nat, n ≤ L.length ∧ i = .int .i64 n ∧ DT W t b (onF f L n c) ∧ OwnI w0.heap.size L v W ∧ Fr (· = b) w W
set_option maxHeartbeats 2000000 in
theorem like_any (w : World) (t b : Nat) (f : Int → Nat) (h : DT w t b f) (a c : Int) :
    Calls Try.prog 11 #[.pointer (some ⟨t, 0, none⟩), .int .i64 a, .int .i64 c] w fun e w' => e = .returned (.int .i64 (likeE f a c)) ∧ DT w' t b (likeF f a c) ∧ Fr (· = b) w w' := by
  have HN := Lib.hid (none_any w t b f h)
  have HT := Lib.hid (isTree_any w a)
  have HC := Lib.hid (isTree_any w c)
  have HD := Lib.hid h
  clear h
  by_cases h1 : 0 ≤ a ∧ a ≤ 6
  · rw [decide_eq_true h1] at HT
    by_cases h2 : 0 ≤ c ∧ c ≤ 6
    · rw [decide_eq_true h2] at HC
      by_cases h3 : a = c
      · have e1 : likeE f a c = 1 := by simp [likeE, okL, h3]
        have e2 : likeF f a c = f := by simp [likeF, okL, h3]
        have g3 : (a == c) = true := by simpa using h3
        rw [e1, e2]
        clear e1 e2 h1 h2 h3
        go_enter Try.func11, Try.ntmps11
        go_wp2_with fail
        refine HN.out.mono ?_
        rintro e w' ⟨rfl, hw⟩
        rw [hw]
        clear hw w'
        go_wp2_with fail
        refine HT.out.mono ?_
        rintro e w' ⟨rfl, hw⟩
        rw [hw]
        clear hw w'
        go_wp2_with fail
        refine HC.out.mono ?_
        rintro e w' ⟨rfl, hw⟩
        rw [hw]
        clear hw w'
        go_wp2_with fail
        all_goals refine bodyPost_ret (by simp [results, Try.results11, go_sem]; rfl) rfl ?_
        all_goals exact ⟨rfl, HD.out, Fr.refl _ _⟩
      · have g3 : (a == c) = false := by simpa using h3
        have hok : okL a c := ⟨h1, h2, h3⟩
        have hO := of_any w t b f HD.out c
        by_cases h4 : ofL f c = []
        · have e1 : likeE f a c = 0 := by simp [likeE, hok, h4]
          have e2 : likeF f a c = likeF1 f a.toNat c.toNat := by simp [likeF, hok, h4]
          rw [e1, e2]
          rw [h4] at hO
          have HO := Lib.hid hO
          obtain ⟨A, rfl⟩ : ∃ A : Nat, a = A := ⟨a.toNat, by omega⟩
          obtain ⟨C, rfl⟩ : ∃ C : Nat, c = C := ⟨c.toNat, by omega⟩
          rw [Int.toNat_natCast, Int.toNat_natCast]
          have HA : Hid (A < 7) := Lib.hid (by omega)
          have HCc : Hid (C < 7) := Lib.hid (by omega)
          clear e1 e2 h1 h2 h3 h4 hok hO
          go_enter Try.func11, Try.ntmps11
          go_wp2_with fail
          refine HN.out.mono ?_
          rintro e w' ⟨rfl, hw⟩
          rw [hw]
          clear hw w'
          go_wp2_with fail
          refine HT.out.mono ?_
          rintro e w' ⟨rfl, hw⟩
          rw [hw]
          clear hw w'
          go_wp2_with fail
          refine HC.out.mono ?_
          rintro e w' ⟨rfl, hw⟩
          rw [hw]
          clear hw w'
          go_wp2_with fail
          refine HO.out.mono ?_
          rintro e w1 ⟨v, rfl, ho, hb⟩
          obtain ⟨a0, cap0, rfl⟩ := ho.shape
          have HD1 := Lib.hid (HD.out.next hb)
          have HB1 := Lib.hid hb
          clear ho hb HO HN HT HC
          go_wp2_with fail
          refine (of_any w1 t b f HD1.out A).mono ?_
          rintro e w2 ⟨v, rfl, ho, hb⟩
          have HD2 := Lib.hid (HD1.out.next hb)
          have HB2 := Lib.hid (bt HB1.out hb)
          have HLN : Hid ((ofL f A).length ≤ 8192) := Lib.hid (ofL_len f A)
          have HLS : Hid ((ofL f A).Pairwise (· < ·)) := Lib.hid (ofL_sorted f A)
          have HLM : Hid (∀ k, k ∈ ofL f A ↔ (f k).testBit A = true) := Lib.hid (fun k => ofL_mem HD.out.vm HA.out)
          have HLE : Hid (onF f (ofL f A) (ofL f A).length C = likeF1 f A C) := Lib.hid (onF_end HD.out.vm HA.out)
          have HSZ : Hid (b < w1.heap.size ∧ t < w1.heap.size) := Lib.hid (by have := HD1.out.lt; omega)
          have HVM := Lib.hid HD.out.vm
          clear hb HD1 HB1 HD
          generalize ofL f A = L at *
          obtain ⟨ad, cap, rfl⟩ := ho.shape
          have HO := Lib.hid ho
          clear ho
          have hl8 : L.length ≤ 8192 := HLN.out
          have k00 : onF f L 0 C = f := by funext k; simp [onF]
          have HF2 : Hid (Fr (· = b) w w2) := Lib.hid (Fr.of_below HB2.out)
          have HD2' : Hid (DT w2 t b (onF f L 0 C)) := Lib.hid (by rw [k00]; exact HD2.out)
          clear k00 HD2
          generalize hn : L.length = n at *
          have HN := Lib.hid hn
          clear hn
          go_wp2_with fail
          go_loopw [33] (fun i wr => LkI w1 w t b f L C (.slice ad n cap) i wr) (fun i _ => n - (intOf i).toNat)
          case atStart => exact ⟨0, by omega, rfl, HD2'.out, HO.out, HF2.out⟩
          case round =>
            obtain ⟨i, hi, rfl, hd, ho, hf⟩ := hrel
            rw [HN.out] at hi
            clear HD2' HO HF2
            have HDi := Lib.hid hd
            have HO := Lib.hid ho
            have HF2 := Lib.hid hf
            clear hd ho hf
            by_cases hlt : i < n
            · have hlt' : (i : Int) < (n : Int) := by omega
              have k0 : (0 : Int) ≤ (i : Int) := by omega
              obtain ⟨x, hx⟩ : ∃ x, L[i]? = some x := ⟨L[i]'(by rw [HN.out]; exact hlt), List.getElem?_eq_getElem _⟩
              obtain ⟨g, rfl, hg, hgl, hcell, _⟩ := HO.out.at i x hx
              have HX := Lib.hid hx
              have HBIT : Hid ((f x).testBit A = true) := Lib.hid ((HLM.out x).1 (List.mem_of_getElem? hx))
              have HG : Hid (w1.heap.size ≤ g ∧ g < wr.heap.size) := Lib.hid ⟨hg, hgl⟩
              have HK : Hid (2 ≤ x ∧ x < 8192) := Lib.hid (HVM.out.dom x (fun e => by have := HBIT.out; rw [e] at this; simp at this))
              obtain ⟨q1, q2⟩ := onF_next HLS.out hx C (f := f)
              have c0 := HDi.out.c0
              have hl := HDi.out.look x
              rw [q1] at hl
              have HL := Lib.hid hl
              have hs := set_with wr t b (onF f L i C) HDi.out x HK.out (f x) C (HVM.out.lt x) HCc.out
              rw [q2] at hs
              have HS := Lib.hid hs
              clear hx hg hgl q1 q2 hl hs
              go_wp2_with (at_lookup; refine wpList_look rfl rfl rfl rfl HL.out ?_)
              refine HS.out.mono ?_
              rintro e w3 ⟨rfl, hd, hf⟩
              have HD3 := Lib.hid hd
              have HF3 : Hid (Fr (· = b) w w3) := Lib.hid (HF2.out.trans hf)
              have HO3 : Hid (OwnI w1.heap.size L (.slice (some ⟨g, 0, none⟩) n cap) w3) := Lib.hid (own_fr HO.out hf (fun k e => by have := HSZ.out; omega))
              clear hd hf hcell c0 HL HS
              go_wp2_with fail
              go_roundw
              case rel => exact ⟨i + 1, by rw [HN.out]; omega, by go_num, HD3.out, HO3.out, HF3.out⟩
              case measure => simp [intOf]; omega
            · obtain rfl : i = n := by omega
              have HDE : Hid (DT wr t b (likeF1 f A C)) := Lib.hid (by rw [← HLE.out]; exact HDi.out)
              go_wp2_with fail
              all_goals refine bodyPost_ret (by simp [results, Try.results11, go_sem]; rfl) rfl ?_
              all_goals exact ⟨rfl, HDE.out, HF2.out⟩
        · have e1 : likeE f a c = 50 := by simp [likeE, hok, h4]
          have e2 : likeF f a c = f := by simp [likeF, h4]
          rw [e1, e2]
          have hpos : (0 : Int) < ((ofL f c).length : Int) := by have := List.length_pos_iff.2 h4; omega
          have HO := Lib.hid hO
          clear e1 e2 h1 h2 h3 h4 hok hO
          generalize ofL f c = L at *
          go_enter Try.func11, Try.ntmps11
          go_wp2_with fail
          refine HN.out.mono ?_
          rintro e w' ⟨rfl, hw⟩
          rw [hw]
          clear hw w'
          go_wp2_with fail
          refine HT.out.mono ?_
          rintro e w' ⟨rfl, hw⟩
          rw [hw]
          clear hw w'
          go_wp2_with fail
          refine HC.out.mono ?_
          rintro e w' ⟨rfl, hw⟩
          rw [hw]
          clear hw w'
          go_wp2_with fail
          refine HO.out.mono ?_
          rintro e w1 ⟨v, rfl, ho, hb⟩
          obtain ⟨a0, cap0, rfl⟩ := ho.shape
          have HD1 := Lib.hid (HD.out.next hb)
          have HB1 := Lib.hid hb
          clear ho hb HO
          go_wp2_with fail
          all_goals refine bodyPost_ret (by simp [results, Try.results11, go_sem]; rfl) rfl ?_
          all_goals exact ⟨rfl, HD1.out, Fr.of_below HB1.out⟩
    · have e1 : likeE f a c = 1 := by simp [likeE, okL, okT, h2]
      have e2 : likeF f a c = f := by simp [likeF, okL, okT, h2]
      rw [e1, e2]
      rw [decide_eq_false h2] at HC
      clear e1 e2 h1 h2
      go_enter Try.func11, Try.ntmps11
      go_wp2_with fail
      refine HN.out.mono ?_
      rintro e w' ⟨rfl, hw⟩
      rw [hw]
      clear hw w'
      go_wp2_with fail
      refine HT.out.mono ?_
      rintro e w' ⟨rfl, hw⟩
      rw [hw]
      clear hw w'
      go_wp2_with fail
      refine HC.out.mono ?_
      rintro e w' ⟨rfl, hw⟩
      rw [hw]
      clear hw w'
      go_wp2_with fail
      all_goals refine bodyPost_ret (by simp [results, Try.results11, go_sem]; rfl) rfl ?_
      all_goals exact ⟨rfl, HD.out, Fr.refl _ _⟩
  · have e1 : likeE f a c = 1 := by simp [likeE, okL, okT, h1]
    have e2 : likeF f a c = f := by simp [likeF, okL, okT, h1]
    rw [e1, e2]
    rw [decide_eq_false h1] at HT
    clear e1 e2 h1
    go_enter Try.func11, Try.ntmps11
    go_wp2_with fail
    refine HN.out.mono ?_
    rintro e w' ⟨rfl, hw⟩
    rw [hw]
    clear hw w'
    go_wp2_with fail
    refine HT.out.mono ?_
    rintro e w' ⟨rfl, hw⟩
    rw [hw]
    clear hw w'
    go_wp2_with fail
    all_goals refine bodyPost_ret (by simp [results, Try.results11, go_sem]; rfl) rfl ?_
    all_goals exact ⟨rfl, HD.out, Fr.refl _ _⟩
end Go.Proofs.Ytaokogeblpjabaa
