/- The document's Of, All. -/
import Derived.Test.YtaokogeblpjabaaXd
import Derived.Test.YtaokogeblpjabaaXf
namespace Go.Proofs.Ytaokogeblpjabaa
open Go.RowKit
def colO (a : Int) (L : List Pr) : List Int := (L.filter fun p => p.1 == a).map (·.2)
def colA (L : List Pr) : List Int := L.map (·.2)
theorem colO_mem (a : Int) (L : List Pr) (x : Int) : x ∈ colO a L ↔ (a, x) ∈ L := by
  unfold colO
  rw [List.mem_map]
  constructor
  · rintro ⟨⟨p, y⟩, h, rfl⟩
    rw [List.mem_filter] at h
    have : p = a := by simpa using h.2
    rw [← this]
    exact h.1
  · intro h
    exact ⟨(a, x), by rw [List.mem_filter]; exact ⟨h, by simp⟩, rfl⟩
theorem colO_len (a : Int) (L : List Pr) : (colO a L).length ≤ L.length := by
  unfold colO
  rw [List.length_map]
  exact List.length_filter_le _ _
theorem colO_next {a : Int} {L : List Pr} {k : Nat} {p : Pr} (h : L[k]? = some p) : colO a (L.take (k + 1)) = if p.1 = a then colO a (L.take k) ++ [p.2] else colO a (L.take k) := by
  unfold colO
  rw [List.take_add_one, h, List.filter_append, List.map_append]
  by_cases e : p.1 = a <;> simp [e]
theorem colA_next {L : List Pr} {k : Nat} {p : Pr} (h : L[k]? = some p) : colA (L.take (k + 1)) = colA (L.take k) ++ [p.2] := by
  unfold colA
  rw [List.take_add_one, h, List.map_append]
  rfl
theorem Rel.of_eq {f : Int → Nat} {L : List Pr} (h : Rel f L) {a : Int} {O : List Int} (hs : So2 O (colO a L)) : O = ofL f a := by
  refine sorted_ext _ _ hs.so (ofL_sorted f a) fun x => ?_
  rw [hs.mem, colO_mem, h.mem]
  by_cases ha : okT a
  · obtain ⟨c, rfl⟩ : ∃ c : Nat, a = c := ⟨a.toNat, by unfold okT at ha; omega⟩
    rw [ofL_mem h.vm (by unfold okT at ha; omega), Int.toNat_natCast]
    exact ⟨fun x => x.2, fun x => ⟨ha, x⟩⟩
  · unfold ofL
    rw [if_neg ha]
    simp [ha]
theorem Rel.all_eq {f : Int → Nat} {L : List Pr} (h : Rel f L) {O : List Int} (hs : So2 O (colA L)) : O = allL f := by
  refine sorted_ext _ _ hs.so (theL_sorted _) fun x => ?_
  rw [hs.mem, mem_allL h.vm, ne_zero (h.vm.lt x)]
  unfold colA
  rw [List.mem_map]
  constructor
  · rintro ⟨⟨a, y⟩, h1, rfl⟩
    obtain ⟨h2, h3⟩ := (h.mem a y).1 h1
    exact ⟨a.toNat, by unfold okT at h2; omega, h3⟩
  · rintro ⟨c, hc, hb⟩
    exact ⟨((c : Int), x), (h.mem _ _).2 ⟨by unfold okT; omega, by rw [Int.toNat_natCast]; exact hb⟩, rfl⟩
def PoI (w : World) (L : List Pr) (a : Int) (v i : Value) (W : World) : Prop := ∃ k : Nat, k ≤ L.length ∧ i = .int .i64 k ∧ OwnI w.heap.size (colO a (L.take k)) v W ∧ Below w.heap.size w W
set_option maxHeartbeats 2000000 in
theorem rof_any (w : World) (q g : Nat) (f : Int → Nat) (h : RX w q g f) (a : Int) :
    Calls Try.prog 36 #[.pointer (some ⟨q, 0, none⟩), .int .i64 a] w fun e w' => ∃ v, e = .returned v ∧ OwnI w.heap.size (ofL f a) v w' ∧ Below w.heap.size w w' := by
  obtain ⟨L, hx, hr⟩ := h
  have HX := Lib.hid hx
  have HRel := Lib.hid hr
  have hL : L.length ≤ 60000 := hr.len
  clear hx hr
  go_enter Try.func36, Try.ntmps36
  go_wp2_with fail
  go_loopw [5, 6] (fun v i wr => PoI w L a v i wr) (fun _ i _ => L.length - (intOf i).toNat)
  case atStart => exact ⟨0, by omega, rfl, OwnI.nil _ _, Below.refl _ _⟩
  case round =>
    obtain ⟨k, hk, rfl, ho, hb⟩ := hrel
    have HO := Lib.hid ho
    have HB := Lib.hid hb
    clear ho hb
    obtain ⟨A, cap, c0, hat⟩ := (HX.out.next HB.out).c0
    by_cases hlt : k < L.length
    · have hlt' : (k : Int) < (L.length : Int) := by omega
      have k0 : (0 : Int) ≤ (k : Int) := by omega
      obtain ⟨⟨pa, pk⟩, hp⟩ : ∃ p, L[k]? = some p := ⟨L[k], List.getElem?_eq_getElem _⟩
      obtain ⟨rfl, hgl, hcap, d1, d2⟩ := hat k _ hp
      have HN := Lib.hid (colO_next (a := a) hp)
      have HLC : Hid ((colO a (L.take k)).length ≤ 60000) := Lib.hid (by have := colO_len a (L.take k); rw [List.length_take] at this; omega)
      clear hat hp hcap hgl
      simp only at d1 d2
      by_cases hpa : pa = a
      · have g1 : (pa == a) = true := by simpa using hpa
        rw [if_pos hpa] at HN
        clear hpa
        have hnew : RowAt (wr.alloc (.cells #[.int .i64 pk] 3)) wr.heap.size 3 [.int .i64 pk] := RowAt.new wr 3 _
        obtain ⟨i, z, q1, q2, q3, q4, q5⟩ := info3
        obtain ⟨v', w', hrun, ho', _, _, hb'⟩ := run_app (P := Try.prog) (wr.alloc (.cells #[.int .i64 pk] 3)) w.heap.size 26 26 3 i z 8 Try.underlying26 q1 q2 q3 q4 q5 u5 (colO a (L.take k)).length _ (HO.out.alloc _) (some ⟨wr.heap.size, 0, none⟩) 1 1 [.int .i64 pk] (SliceAt.row hnew) (fun h => by cases h) (fun u hu => by simp at hu; subst hu; rfl) (by have := HLC.out; unfold maxLen; omega) (by have := HLC.out; omega) (by have := HB.out.size; simp; omega)
        have HRUN := Lib.hid hrun
        have HO3 : Hid (OwnI w.heap.size (colO a (L.take (k + 1))) v' w') := Lib.hid (by
          rw [HN.out]
          unfold OwnI
          rw [List.length_append, List.map_append]
          exact ho')
        have HB3 := Lib.hid ((HB.out.alloc HB.out.size (.cells #[.int .i64 pk] 3)).trans hb')
        clear hnew hrun ho' hb' q1 q2 q3 q4 q5
        go_wp2_with (at_builtin; refine wpList_app rfl (.tmp 26) (.tmp 35) 26 26 rfl rfl HRUN.out rfl rfl ?_)
        go_roundw
        case rel => exact ⟨k + 1, by omega, by go_num, HO3.out, HB3.out⟩
        case measure => simp [intOf]; omega
      · have g1 : (pa == a) = false := by simpa using hpa
        rw [if_neg hpa] at HN
        clear hpa
        go_wp2_with fail
        go_roundw
        case rel => exact ⟨k + 1, by omega, by go_num, by rw [HN.out]; exact HO.out, HB.out⟩
        case measure => simp [intOf]; omega
    · have hge : decide ((k : Int) < (L.length : Int)) = false := by simp; omega
      have HT : Hid (L.take k = L) := Lib.hid (List.take_of_length_le (by omega))
      clear hat
      go_wp2_with fail
      have hsl : (colO a (L.take k)).length ≤ 60000 := by have := colO_len a (L.take k); rw [List.length_take] at this; omega
      refine (sorted_any wr _ _ HO.out.ga hsl).mono ?_
      rintro e w3 ⟨O, v, rfl, ho, hs, hb⟩
      rw [HT.out] at hs
      have HE := Lib.hid (HRel.out.of_eq hs)
      have HO3 := Lib.hid (ho.mono HB.out.size)
      have HB3 := Lib.hid (bt HB.out hb)
      clear ho hs hb hsl
      go_wp2_with fail
      all_goals refine bodyPost_ret (by simp [results, Try.results36, go_sem]; rfl) rfl ?_
      all_goals exact ⟨_, rfl, by rw [← HE.out]; exact HO3.out, HB3.out⟩
def PaI (w : World) (L : List Pr) (v i : Value) (W : World) : Prop := ∃ k : Nat, k ≤ L.length ∧ i = .int .i64 k ∧ OwnI w.heap.size (colA (L.take k)) v W ∧ Below w.heap.size w W
set_option maxHeartbeats 2000000 in
theorem rall_any (w : World) (q g : Nat) (f : Int → Nat) (h : RX w q g f) :
    Calls Try.prog 38 #[.pointer (some ⟨q, 0, none⟩)] w fun e w' => ∃ v, e = .returned v ∧ OwnI w.heap.size (allL f) v w' ∧ Below w.heap.size w w' := by
  obtain ⟨L, hx, hr⟩ := h
  have HX := Lib.hid hx
  have HRel := Lib.hid hr
  have hL : L.length ≤ 60000 := hr.len
  clear hx hr
  go_enter Try.func38, Try.ntmps38
  go_wp2_with fail
  go_loopw [3, 4] (fun v i wr => PaI w L v i wr) (fun _ i _ => L.length - (intOf i).toNat)
  case atStart => exact ⟨0, by omega, rfl, OwnI.nil _ _, Below.refl _ _⟩
  case round =>
    obtain ⟨k, hk, rfl, ho, hb⟩ := hrel
    have HO := Lib.hid ho
    have HB := Lib.hid hb
    clear ho hb
    obtain ⟨A, cap, c0, hat⟩ := (HX.out.next HB.out).c0
    by_cases hlt : k < L.length
    · have hlt' : (k : Int) < (L.length : Int) := by omega
      have k0 : (0 : Int) ≤ (k : Int) := by omega
      obtain ⟨⟨pa, pk⟩, hp⟩ : ∃ p, L[k]? = some p := ⟨L[k], List.getElem?_eq_getElem _⟩
      obtain ⟨rfl, hgl, hcap, d1, d2⟩ := hat k _ hp
      have HN := Lib.hid (colA_next hp)
      have HLC : Hid ((colA (L.take k)).length ≤ 60000) := Lib.hid (by unfold colA; rw [List.length_map, List.length_take]; omega)
      clear hat hp hcap hgl
      simp only at d1 d2
      have hnew : RowAt (wr.alloc (.cells #[.int .i64 pk] 3)) wr.heap.size 3 [.int .i64 pk] := RowAt.new wr 3 _
      obtain ⟨i, z, q1, q2, q3, q4, q5⟩ := info3
      obtain ⟨v', w', hrun, ho', _, _, hb'⟩ := run_app (P := Try.prog) (wr.alloc (.cells #[.int .i64 pk] 3)) w.heap.size 26 26 3 i z 8 Try.underlying26 q1 q2 q3 q4 q5 u3 (colA (L.take k)).length _ (HO.out.alloc _) (some ⟨wr.heap.size, 0, none⟩) 1 1 [.int .i64 pk] (SliceAt.row hnew) (fun h => by cases h) (fun u hu => by simp at hu; subst hu; rfl) (by have := HLC.out; unfold maxLen; omega) (by have := HLC.out; omega) (by have := HB.out.size; simp; omega)
      have HRUN := Lib.hid hrun
      have HO3 : Hid (OwnI w.heap.size (colA (L.take (k + 1))) v' w') := Lib.hid (by
        rw [HN.out]
        unfold OwnI
        rw [List.length_append, List.map_append]
        exact ho')
      have HB3 := Lib.hid ((HB.out.alloc HB.out.size (.cells #[.int .i64 pk] 3)).trans hb')
      clear hnew hrun ho' hb' q1 q2 q3 q4 q5
      go_wp2_with (at_builtin; refine wpList_app rfl (.tmp 14) (.tmp 23) 26 26 rfl rfl HRUN.out rfl rfl ?_)
      go_roundw
      case rel => exact ⟨k + 1, by omega, by go_num, HO3.out, HB3.out⟩
      case measure => simp [intOf]; omega
    · have hge : decide ((k : Int) < (L.length : Int)) = false := by simp; omega
      have HT : Hid (L.take k = L) := Lib.hid (List.take_of_length_le (by omega))
      clear hat
      go_wp2_with fail
      have hsl : (colA (L.take k)).length ≤ 60000 := by unfold colA; rw [List.length_map, List.length_take]; omega
      refine (sorted_any wr _ _ HO.out.ga hsl).mono ?_
      rintro e w3 ⟨O, v, rfl, ho, hs, hb⟩
      rw [HT.out] at hs
      have HE := Lib.hid (HRel.out.all_eq hs)
      have HO3 := Lib.hid (ho.mono HB.out.size)
      have HB3 := Lib.hid (bt HB.out hb)
      clear ho hs hb hsl
      go_wp2_with fail
      all_goals refine bodyPost_ret (by simp [results, Try.results38, go_sem]; rfl) rfl ?_
      all_goals exact ⟨_, rfl, by rw [← HE.out]; exact HO3.out, HB3.out⟩
end Go.Proofs.Ytaokogeblpjabaa
