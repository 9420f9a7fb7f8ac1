/- SpaceOnce: the walk. -/
import Derived.Test.YtbkbfkaklhojgaaWn
namespace Go.Proofs.Ytbkbfkaklhojgaa
open Go.RowKit Go.Shelf
theorem size_of (x : Int) : ∃ N : Nat, 64 ≤ N ∧ N ≤ 400 ∧ wrap64 (64 + wrap64 ((IntKind.u64.wrap x).tmod 337)) = (N : Int) := by
  have h0 : 0 ≤ IntKind.u64.wrap x := by
    have : IntKind.u64.wrap x = x % 18446744073709551616 := rfl
    omega
  have h1 : 0 ≤ (IntKind.u64.wrap x).tmod 337 := Int.tmod_nonneg 337 h0
  have h2 : (IntKind.u64.wrap x).tmod 337 < 337 := Int.tmod_lt_of_pos _ (by omega)
  generalize (IntKind.u64.wrap x).tmod 337 = y at *
  refine ⟨(64 + y).toNat, by omega, by omega, ?_⟩
  have e1 : wrap64 y = y := by unfold wrap64; omega
  rw [e1]
  unfold wrap64
  omega
theorem BR.ones {W : World} {v : Value} {g N : Nat} (h : BR W v g (List.replicate N (.bool false))) (hN : 2 ≤ N) : BR ((W.setCell ⟨g, 0, none⟩ (.bool true)).setCell ⟨g, 1, none⟩ (.bool true)) v g (rowL N (tB newF)) := by
  have h1 := (h.set 0 (.bool true) (by simp; omega)).set 1 (.bool true) (by simp; omega)
  rw [rowL_false, rowL_set, rowL_set] at h1
  rw [rowL_congr (p := tB newF) (q := fun j => if j = 1 then true else if j = 0 then true else false) (fun k _ => by
    unfold tB newF upd
    by_cases e : k = 1
    · simp [e]
    · by_cases e0 : k = 0 <;> simp [e, e0])]
  exact h1
theorem newW (N : Nat) : rowL N (fun _ => false) = rowL N (wB newF) := rowL_congr (fun k _ => by
  unfold wB newF upd
  by_cases e : k = 1
  · simp [e]
  · by_cases e0 : k = 0 <;> simp [e, e0])
theorem newK (N : Nat) : rowL N (tB newF) = rowL N (kB newF) := rowL_congr (fun k _ => by
  unfold tB kB newF upd
  by_cases e : k = 1
  · simp [e]
  · by_cases e0 : k = 0 <;> simp [e, e0])
theorem OnS.shape {w W : World} {b N last : Nat} {f : Nat → Nat} {g7 g8 g9 : Nat} {v7 v8 v9 : Value} (h : OnS w W b N last f g7 g8 g9 v7 v8 v9) : ∃ c7 c8 c9, v7 = .slice (some ⟨g7, 0, none⟩) N c7 ∧ v8 = .slice (some ⟨g8, 0, none⟩) N c8 ∧ v9 = .slice (some ⟨g9, 0, none⟩) N c9 := by
  obtain ⟨c7, _, e7, _⟩ := h.r7
  obtain ⟨c8, _, e8, _⟩ := h.r8
  obtain ⟨c9, _, e9, _⟩ := h.r9
  rw [rowL_len] at e7 e8 e9
  exact ⟨c7, c8, c9, e7, e8, e9⟩
theorem OnS.same {w W W' : World} {b N last : Nat} {f : Nat → Nat} {g7 g8 g9 : Nat} {v7 v8 v9 : Value} (h : OnS w W b N last f g7 g8 g9 v7 v8 v9) (hs : SI W' b N last f) (hfr : Fr (· = b) W W') : OnS w W' b N last f g7 g8 g9 v7 v8 v9 :=
  { h with si := hs, r7 := h.r7.fr hfr h.n7, r8 := h.r8.fr hfr h.n8, r9 := h.r9.fr hfr h.n9, be := Below.fr h.be hfr h.be.size (fun _ e => Nat.le_trans h.lb (Nat.le_of_eq e.symm)) }
theorem OnS.st4 {w W : World} {b N last : Nat} {f : Nat → Nat} {g7 g8 g9 : Nat} {v7 v8 v9 : Value} (h : OnS w W b N last f g7 g8 g9 v7 v8 v9) : ∀ i, f i < 4 := by
  obtain ⟨c, _, hc⟩ := h.si
  exact hc.st
def OnI (w : World) (b N n : Nat) (i v7 v8 v9 : Value) (W : World) : Prop := ∃ k : Nat, k ≤ n ∧ i = .int .i64 k ∧ ∃ last f g7 g8 g9, OnS w W b N last f g7 g8 g9 v7 v8 v9
def TK (w : World) (b N g7 g8 g9 : Nat) (v7 v8 v9 : Value) (i : Value) (W : World) : Prop := ∃ j : Nat, j ≤ 30 ∧ i = .int .i64 j ∧ ∃ last f, OnS w W b N last f g7 g8 g9 v7 v8 v9
def TI (N : Nat) (f : Nat → Nat) (W0 : World) (t u i : Value) (W : World) : Prop := ∃ j : Nat, j ≤ N ∧ t = .int .i64 (cnt j f 1 + cnt j f 2) ∧ u = .int .i64 (cnt j f 3) ∧ i = .int .i64 j ∧ Below W0.heap.size W0 W
theorem cnt_bds (f : Nat → Nat) (N : Nat) : (0 ≤ cnt N f 0 ∧ cnt N f 0 ≤ N) ∧ (0 ≤ cnt N f 1 ∧ cnt N f 1 ≤ N) ∧ (0 ≤ cnt N f 2 ∧ cnt N f 2 ≤ N) ∧ 0 ≤ cnt N f 3 ∧ cnt N f 3 ≤ N := ⟨cnt_bd f 0 N, cnt_bd f 1 N, cnt_bd f 2 N, cnt_bd f 3 N⟩
theorem cnt_all (f : Nat → Nat) (h : ∀ i, f i < 4) (N : Nat) : cnt N f 0 + (cnt N f 1 + cnt N f 2) + cnt N f 3 = N ∧ (0 ≤ cnt N f 0 ∧ cnt N f 0 ≤ N) ∧ (0 ≤ cnt N f 1 ∧ cnt N f 1 ≤ N) ∧ (0 ≤ cnt N f 2 ∧ cnt N f 2 ≤ N) ∧ 0 ≤ cnt N f 3 ∧ cnt N f 3 ≤ N :=
  ⟨by have := cnt_sum f h N; omega, cnt_bd f 0 N, cnt_bd f 1 N, cnt_bd f 2 N, cnt_bd f 3 N⟩
theorem cnt_tnext (f : Nat → Nat) (j : Nat) : cnt (j + 1) f 1 + cnt (j + 1) f 2 = (cnt j f 1 + cnt j f 2) + (if tB f j = true then 1 else 0) := by
  unfold tB
  simp only [cnt]
  by_cases e1 : f j = 1
  · simp [e1]; omega
  · by_cases e2 : f j = 2
    · simp [e2]; omega
    · simp [e1, e2]
theorem cnt_unext (f : Nat → Nat) (j : Nat) : cnt (j + 1) f 3 = cnt j f 3 + (if wB f j = true then 1 else 0) := by
  unfold wB
  simp only [cnt]
  by_cases e1 : f j = 3 <;> simp [e1]
theorem tk_eq {N : Nat} (f : Nat → Nat) (j : Nat) (h : j < N) : tkB N f (j : Int) = tB f j := by
  unfold tkB tB
  apply decide_eq_decide.2
  rw [Int.toNat_natCast]
  exact ⟨fun h => h.2.2, fun k => ⟨by omega, by omega, k⟩⟩
theorem giveE_ok {N : Nat} {f : Nat → Nat} {z : Int} (h : giveE N f z = 0) : ∃ x : Nat, z = x ∧ 2 ≤ x ∧ x < N ∧ (f x = 2 ∨ f x = 1) := by
  unfold giveE at h
  split at h
  · omega
  · split at h
    · rename_i h1 h2
      exact ⟨z.toNat, by omega, by omega, by omega, h2⟩
    · omega
theorem giveF_not {N : Nat} {f : Nat → Nat} {z : Int} (h : ¬ giveE N f z = 0) : giveF N f z = f := by
  unfold giveE at h
  unfold giveF
  split
  · rfl
  · rename_i h1
    rw [if_neg h1] at h
    split at h
    · omega
    · rename_i h2
      rw [if_neg (fun e => h2 (.inl e)), if_neg (fun e => h2 (.inr e))]
theorem markE_ok {N : Nat} {f : Nat → Nat} {z : Int} (h : markE N f z = 0) : ∃ x : Nat, z = x ∧ 2 ≤ x ∧ x < N ∧ f x = 0 := by
  unfold markE at h
  split at h
  · omega
  · split at h
    · rename_i h1 h2
      exact ⟨z.toNat, by omega, by omega, by omega, h2⟩
    · omega
theorem markF_not {N : Nat} {f : Nat → Nat} {z : Int} (h : ¬ markE N f z = 0) : markF N f z = f := by
  unfold markE at h
  unfold markF
  split
  · rfl
  · rename_i h1
    rw [if_neg h1] at h
    split at h
    · omega
    · rename_i h2
      rw [if_neg h2]
set_option maxRecDepth 65000 in
set_option maxHeartbeats 8000000 in
theorem once_law (w : World) (x : Int) (_hx : -9223372036854775808 ≤ x ∧ x ≤ 9223372036854775807) (a : Option Addr) (n cap : Nat) (l : List So) (hl : OpsAt w a n l) (hn : n ≤ maxLen) :
    Calls Try.prog 3 #[.int .i64 x, .slice a n cap] w fun e w' => e = .returned (.bool true) ∧ Below w.heap.size w w' := by
  have HL := Lib.hid hl
  have HA := Lib.hid (awake_any w)
  clear hl
  have hn' : n ≤ 9223372036854775807 := by unfold maxLen at hn; omega
  clear hn
  by_cases h100 : (100 : Int) < (n : Int)
  · have g1 : decide ((n : Int) > 100) = true := by simpa using h100
    go_enter Try.func3, Try.ntmps3
    go_wp2_with fail
    refine HA.out.mono ?_
    rintro e w1 ⟨rfl, hb⟩
    go_wp2_with fail
    all_goals refine bodyPost_ret (by simp [results, Try.results3, go_sem]; rfl) rfl ?_
    all_goals exact ⟨rfl, hb⟩
  · have g1 : decide ((n : Int) > 100) = false := by simpa using h100
    have g2 : decide ((100 : Int) < (n : Int)) = false := by simpa using h100
    go_enter Try.func3, Try.ntmps3
    go_wp2_with fail
    refine HA.out.mono ?_
    rintro e w1 ⟨rfl, hb⟩
    have HB1 := Lib.hid hb
    clear hb
    go_wp2_with fail
    obtain ⟨N, hN0, hN1, hNe⟩ := size_of x
    rw [hNe]
    have HNE := Lib.hid hNe
    clear hNe
    refine (new_any w1 N hN0 (by omega)).mono ?_
    rintro e w2 ⟨rfl, hs, hb⟩
    obtain ⟨b, hbb⟩ : ∃ b, b = w1.heap.size := ⟨_, rfl⟩
    rw [← hbb] at hs ⊢
    have HS2 := Lib.hid hs
    have HB2 := Lib.hid (bt HB1.out hb)
    have HLB : Hid (w.heap.size ≤ b) := Lib.hid (by rw [hbb]; exact HB1.out.size)
    clear hs hb hbb HB1
    have hm1 := make29 w2 N hN1
    have hr7 := BR.made w2 N hN1
    have hal1 : Below w2.heap.size w2 (w2.alloc (.cells (List.replicate N (Value.bool false)).toArray 4)) := (Below.refl _ _).alloc (Nat.le_refl _) _
    have hz1 : (w2.alloc (.cells (List.replicate N (Value.bool false)).toArray 4)).heap.size = w2.heap.size + 1 := by simp
    have HLT : Hid (b < w2.heap.size) := Lib.hid HS2.out.lt
    have HL7 : Hid (w.heap.size ≤ w2.heap.size) := Lib.hid HB2.out.size
    generalize w2.alloc (.cells (List.replicate N (Value.bool false)).toArray 4) = w3a at *
    have hm2 := make29 w3a N hN1
    have hr8 := BR.made w3a N hN1
    have hal2 : Below w3a.heap.size w3a (w3a.alloc (.cells (List.replicate N (Value.bool false)).toArray 4)) := (Below.refl _ _).alloc (Nat.le_refl _) _
    have hz2 : (w3a.alloc (.cells (List.replicate N (Value.bool false)).toArray 4)).heap.size = w3a.heap.size + 1 := by simp
    generalize w3a.alloc (.cells (List.replicate N (Value.bool false)).toArray 4) = w3 at *
    have HR7 := Lib.hid (hr7.next hal2)
    have HR8 := Lib.hid hr8
    have HS3 := Lib.hid ((HS2.out.next hal1).next hal2)
    have HB3 := Lib.hid (bt (bt HB2.out hal1) hal2)
    obtain ⟨g7, hg7⟩ : ∃ g, g = w2.heap.size := ⟨_, rfl⟩
    obtain ⟨g8, hg8⟩ : ∃ g, g = w3a.heap.size := ⟨_, rfl⟩
    have HG8 : Hid (g8 = g7 + 1 ∧ w3.heap.size = g7 + 2) := Lib.hid (by omega)
    rw [← hg7] at hm1 HR7 HLT HL7
    rw [← hg8] at hm2 HR8
    clear hg7 hg8 hz1 hz2 hr7 hr8 hal1 hal2 HS2 HB2
    have c0 : w3.cell? ⟨g7, 0, none⟩ = some (.bool false) := by rw [HR7.out.cell 0 (by simp; omega), List.getElem?_replicate, if_pos (by omega)]
    have c1 : w3.cell? ⟨g7, 1, none⟩ = some (.bool false) := by rw [HR7.out.cell 1 (by simp; omega), List.getElem?_replicate, if_pos (by omega)]
    have f0 := HR7.out.free 0
    have f1 := HR7.out.free 1
    have k0 : (0 : Int) < (N : Int) := by omega
    have k1 : (1 : Int) < (N : Int) := by omega
    have HQ7 := Lib.hid (HR7.out.ones (by omega))
    have fA : Fr (· = g7) w3 ((w3.setCell ⟨g7, 0, none⟩ (.bool true)).setCell ⟨g7, 1, none⟩ (.bool true)) := (frSet w3 g7 0 (.bool true)).trans (frSet _ g7 1 (.bool true))
    have HQ8 : Hid (BR ((w3.setCell ⟨g7, 0, none⟩ (.bool true)).setCell ⟨g7, 1, none⟩ (.bool true)) (.slice (some ⟨g8, 0, none⟩) N N) g8 (rowL N (wB newF))) := Lib.hid (by
      rw [← newW, ← rowL_false]; exact HR8.out.fr fA (by have := HG8.out; omega))
    have HQS := Lib.hid (HS3.out.fr fA (by have := HLT.out; omega))
    have HQB : Hid (Below w.heap.size w ((w3.setCell ⟨g7, 0, none⟩ (.bool true)).setCell ⟨g7, 1, none⟩ (.bool true))) := Lib.hid (Below.fr HB3.out fA HB3.out.size (fun _ e => by have := HL7.out; omega))
    have hq := HQ7.out
    have hsz : ((w3.setCell ⟨g7, 0, none⟩ (.bool true)).setCell ⟨g7, 1, none⟩ (.bool true)).heap.size = w3.heap.size := by simp
    rw [show (Value.slice (some ⟨g7, 0, none⟩) N N) = .slice (some ⟨g7, 0, none⟩) (rowL N (tB newF)).length N from by rw [rowL_len]] at hq
    obtain ⟨g9, cap9, w4, hrun, hr9, hge9, hb9⟩ := app29 _ g7 N (rowL N (tB newF)) hq (rowL_one _ _) (by rw [rowL_len]; exact hN1) (by rw [rowL_len]; omega)
    rw [rowL_len] at hrun hr9
    rw [hsz] at hrun hge9
    have HRUN := Lib.hid hrun
    have HO : Hid (OnS w w4 b N 0 newF g7 g8 g9 (.slice (some ⟨g7, 0, none⟩) N N) (.slice (some ⟨g8, 0, none⟩) N N) (.slice (some ⟨g9, 0, none⟩) N cap9)) := Lib.hid (by
      have z1 := HG8.out
      have z2 := HLT.out
      have z3 := HL7.out
      have z4 := HLB.out
      refine ⟨HQS.out.next hb9, by omega, rfl, rfl, HQ7.out.next hb9, HQ8.out.next hb9, by rw [← newK]; exact hr9, bt HQB.out hb9, z4, by omega, by omega, by omega, by omega, by omega, by omega, by omega, by omega, by omega⟩)
    clear hq hrun hr9 hge9 hb9 hsz fA HQ7 HQ8 HQS HQB HR7 HR8 HS3 HB3 HG8 HLT HL7
    go_wp2_with (at_builtin; refine wpList_app rfl (.tmp 46) (.tmp 47) 29 29 rfl rfl HRUN.out rfl rfl ?_)
    clear HRUN hm1 hm2 c0 c1 f0 f1 k0 k1 HNE HLB
    generalize w3.heap.size = z3 at *
    go_loopw [10, 7, 8, 9] (fun i v7 v8 v9 wr => OnI w b N n i v7 v8 v9 wr) (fun i _ _ _ _ => n - (intOf i).toNat)
    case atStart => exact ⟨0, by omega, rfl, _, _, _, _, _, HO.out⟩
    case round =>
      obtain ⟨k, hk, rfl, last, f, g7, g8, g9, ho⟩ := hrel
      obtain ⟨c7, c8, c9, e7, e8, e9⟩ := ho.shape
      subst e7 e8 e9
      clear HO
      have HO := Lib.hid ho
      clear ho
      by_cases hlt : k < n
      · have hlt' : (k : Int) < (n : Int) := by omega
        have HLr := Lib.hid (HL.out.next HO.out.be)
        obtain ⟨b1, o1, rfl, l1, q1⟩ := HLr.out.get k hlt
        have hll : k < l.length := by have := HL.out.1; omega
        obtain ⟨st, hst⟩ : ∃ st, l[k]? = some st := ⟨l[k], List.getElem?_eq_getElem _⟩
        obtain ⟨d1, d2⟩ := q1 k st hst
        obtain ⟨s1, s2, s3⟩ := HL.out.2.1 st (List.mem_of_getElem? hst)
        obtain ⟨z, hz⟩ : ∃ z : Int, z = st.n := ⟨_, rfl⟩
        rw [← hz] at d2 s2 s3
        obtain ⟨kd, hkd⟩ : ∃ z : Nat, z = st.kind := ⟨_, rfl⟩
        rw [← hkd] at d1 s1
        have k0 : (0 : Int) ≤ (k : Int) := by omega
        clear q1 hst hz hkd HLr
        by_cases e0 : kd = 0
        · subst e0
          as_aux_lemma =>
            go_wp2_with fail
            clear d1 d2
            go_loopw [12] (fun i wy => TK w b N g7 g8 g9 (.slice (some ⟨g7, 0, none⟩) N c7) (.slice (some ⟨g8, 0, none⟩) N c8) (.slice (some ⟨g9, 0, none⟩) N c9) i wy) (fun i _ => 31 - (intOf i).toNat)
            case atStart => exact ⟨0, by omega, rfl, _, _, HO.out⟩
            case round =>
              obtain ⟨j, hj, rfl, last, f, ho⟩ := hrel
              clear HO
              have HO := Lib.hid ho
              clear ho
              by_cases hj1 : (j : Int) < z
              · by_cases hj2 : (j : Int) < 30
                · have HTK := Lib.hid (take_any wr b N last f HO.out.si (by omega) (by omega) HO.out.ll)
                  go_wp2_with fail
                  refine HTK.out.mono ?_
                  rintro e wt ⟨r, rfl, htp, hs, hf⟩
                  clear HTK
                  cases r with
                  | none =>
                    have HS1 := Lib.hid (HO.out.same hs hf)
                    clear hs hf htp HO
                    have HO := HS1
                    clear HS1
                    simp only [rN, rE]
                    as_aux_lemma =>
                      obtain ⟨fq, hfq⟩ : ∃ q, q = f := ⟨_, rfl⟩
                      have HT : Hid (OnS w wt b N last fq g7 g8 g9 (.slice (some ⟨g7, 0, none⟩) N c7) (.slice (some ⟨g8, 0, none⟩) N c8) (.slice (some ⟨g9, 0, none⟩) N c9)) := Lib.hid (by rw [hfq]; exact HO.out)
                      clear HO hfq
                      go_wp2_with fail
                      go_loopw [15, 16, 17] (fun t u i wz => TI N fq wt t u i wz) (fun _ _ i _ => N - (intOf i).toNat)
                      case atStart => exact ⟨0, by omega, rfl, rfl, rfl, Below.refl _ _⟩
                      case round =>
                        obtain ⟨j, hj, rfl, rfl, rfl, hbz⟩ := hrel
                        have HOz := Lib.hid (HT.out.next hbz)
                        have HBZ := Lib.hid hbz
                        clear hbz HT
                        have HC := Lib.hid (cnt_all fq HOz.out.st4 N)
                        by_cases hlt : j < N
                        · have hlt' : (j : Int) < (N : Int) := by omega
                          have j0 : (0 : Int) ≤ (j : Int) := by omega
                          have hcb := cnt_bds fq j
                          obtain ⟨tb, htb⟩ : ∃ tb, tb = tB fq j := ⟨_, rfl⟩
                          obtain ⟨ub, hub⟩ : ∃ ub, ub = wB fq j := ⟨_, rfl⟩
                          have HTS := Lib.hid (cnt_tnext fq j)
                          have HUS := Lib.hid (cnt_unext fq j)
                          rw [← htb] at HTS
                          rw [← hub] at HUS
                          obtain ⟨C1, hC1⟩ : ∃ c, c = cnt j fq 1 + cnt j fq 2 := ⟨_, rfl⟩
                          obtain ⟨C3, hC3⟩ : ∃ c, c = cnt j fq 3 := ⟨_, rfl⟩
                          have b1 : 0 ≤ C1 ∧ C1 ≤ 100000 := by rw [hC1]; omega
                          have b3 : 0 ≤ C3 ∧ C3 ≤ 100000 := by rw [hC3]; omega
                          rw [← hC1] at HTS ⊢
                          rw [← hC3] at HUS ⊢
                          have HTB := Lib.hid htb
                          have HUB := Lib.hid hub
                          clear hC1 hC3 htb hub hcb
                          have HTK : Hid (∀ x : Bw wr.heap.size wr, Calls Try.prog 13 #[.pointer (some ⟨b, 0, none⟩), .int .i64 j] x.val fun e w' => e = .returned (.bool tb) ∧ Below x.val.heap.size x.val w') := Lib.hid (fun x => by
                            have := taken_any x.val b N last fq (HOz.out.next x.ok).si (by omega) j
                            rw [tk_eq fq j hlt, ← HTB.out] at this
                            exact this)
                          go_wp2_with fail
                          refine wp_region_bw wr.heap.size (by kernel_rfl) (by kernel_rfl) ?_
                          have q7 : ∀ x : Bw wr.heap.size wr, x.val.cell? ⟨g7, j, none⟩ = some (.bool tb) := fun x => by rw [HTB.out]; exact ((HOz.out.next x.ok).r7.cell j (by rw [rowL_len]; exact hlt)).trans (rowL_get N _ j hlt)
                          have hne : (tb != tb) = false := by simp
                          repeat (go_big_quiet_step ((go_at_call 13; exact Calls.bw (Nat.le_refl _) _ (HTK.out _))))
                          refine wpQuiet_nil ?_
                          rintro w' ⟨xx, rfl⟩
                          clear q7
                          have HX := Lib.hid (HOz.out.next xx.ok)
                          have HXB := Lib.hid xx.ok
                          generalize xx.val = wy at *
                          have d7 : wy.cell? ⟨g7, j, none⟩ = some (.bool tb) := by rw [HTB.out]; exact (HX.out.r7.cell j (by rw [rowL_len]; exact hlt)).trans (rowL_get N _ j hlt)
                          have d8 : wy.cell? ⟨g8, j, none⟩ = some (.bool ub) := by rw [HUB.out]; exact (HX.out.r8.cell j (by rw [rowL_len]; exact hlt)).trans (rowL_get N _ j hlt)
                          clear HTK hne HOz HX
                          cases tb <;> cases ub
                          all_goals go_wp2_with fail
                          all_goals go_roundw
                          all_goals first
                            | (show _ < _; simp [intOf]; omega)
                            | exact ⟨j + 1, by omega, by simp [HTS.out], by simp [HUS.out], by go_num, HBZ.out.trans (HXB.out.mono HBZ.out.size)⟩
                        · obtain rfl : j = N := by omega
                          have hge : decide ((j : Int) < (j : Int)) = false := by simp
                          have HW := Lib.hid (waits_any wr b j last fq HOz.out.si)
                          have HFr := Lib.hid (free_any wr b j last fq HOz.out.si)
                          obtain ⟨hsum, q0, q1, q2, q3⟩ := HC.out
                          obtain ⟨C0, hC0⟩ : ∃ c, c = cnt j fq 0 := ⟨_, rfl⟩
                          obtain ⟨C1, hC1⟩ : ∃ c, c = cnt j fq 1 + cnt j fq 2 := ⟨_, rfl⟩
                          obtain ⟨C3, hC3⟩ : ∃ c, c = cnt j fq 3 := ⟨_, rfl⟩
                          rw [← hC1, ← hC3, ← hC0] at hsum
                          rw [← hC3] at HW
                          rw [← hC0] at HFr
                          rw [← hC1, ← hC3]
                          have b0 : 0 ≤ C0 ∧ C0 ≤ 100000 := by rw [hC0]; omega
                          have b1 : 0 ≤ C1 ∧ C1 ≤ 100000 := by rw [hC1]; omega
                          have b3 : 0 ≤ C3 ∧ C3 ≤ 100000 := by rw [hC3]; omega
                          have hn1 : (C3 != C3) = false := by simp
                          have hn2 : (C0 + C1 + C3 != (j : Int)) = false := by simp; omega
                          clear hC0 hC1 hC3 q0 q1 q2 q3 HC hlt
                          go_wp2_with fail
                          refine HW.out.mono ?_
                          rintro e w' ⟨rfl, hw⟩
                          rw [hw]
                          clear hw
                          go_wp2_with fail
                          refine HFr.out.mono ?_
                          rintro e w' ⟨rfl, hw⟩
                          rw [hw]
                          clear hw
                          go_wp2_with fail
                          go_roundw
                          case rel => exact ⟨k + 1, by omega, by go_num, _, _, _, _, _, HOz.out⟩
                          case measure => simp [intOf]; omega

                  | some x =>
                    obtain ⟨p1, p2, p3, p4⟩ := htp
                    have HS1 := Lib.hid (HO.out.take x p2 p1 p3 hs hf)
                    have R7 := HO.out.r7.fr hf HO.out.n7
                    have R8 := HO.out.r8.fr hf HO.out.n8
                    have t7 : wt.cell? ⟨g7, x, none⟩ = some (.bool false) := by
                      rw [R7.cell x (by rw [rowL_len]; exact p2), rowL_get N _ x p2]; unfold tB; rw [p3]; rfl
                    have t8 : wt.cell? ⟨g8, x, none⟩ = some (.bool false) := by
                      rw [R8.cell x (by rw [rowL_len]; exact p2), rowL_get N _ x p2]; unfold wB; rw [p3]; rfl
                    have f7 := R7.free x
                    have x0 : (0 : Int) ≤ (x : Int) := by omega
                    have x1 : (x : Int) < (N : Int) := by omega
                    have x2 : decide ((x : Int) < 2) = false := by simp; omega
                    have x3 : decide ((N : Int) ≤ (x : Int)) = false := by simp; omega
                    have x4 : decide ((x : Int) ≥ (N : Int)) = false := by simp; omega
                    clear hs hf p4 R7 R8 HO p1 p2 p3
                    simp only [rN, rE]
                    go_wp2_with fail
                    go_roundw
                    case rel => exact ⟨j + 1, by omega, by go_num, _, _, HS1.out⟩
                    case measure => simp [intOf]; omega
                · have hj3 : decide ((j : Int) < 30) = false := by simpa using hj2
                  as_aux_lemma =>
                    obtain ⟨fq, hfq⟩ : ∃ q, q = f := ⟨_, rfl⟩
                    have HT : Hid (OnS w wr b N last fq g7 g8 g9 (.slice (some ⟨g7, 0, none⟩) N c7) (.slice (some ⟨g8, 0, none⟩) N c8) (.slice (some ⟨g9, 0, none⟩) N c9)) := Lib.hid (by rw [hfq]; exact HO.out)
                    clear HO hfq
                    go_wp2_with fail
                    go_loopw [15, 16, 17] (fun t u i wz => TI N fq wr t u i wz) (fun _ _ i _ => N - (intOf i).toNat)
                    case atStart => exact ⟨0, by omega, rfl, rfl, rfl, Below.refl _ _⟩
                    case round =>
                      obtain ⟨j, hj, rfl, rfl, rfl, hbz⟩ := hrel
                      have HOz := Lib.hid (HT.out.next hbz)
                      have HBZ := Lib.hid hbz
                      clear hbz HT
                      have HC := Lib.hid (cnt_all fq HOz.out.st4 N)
                      by_cases hlt : j < N
                      · have hlt' : (j : Int) < (N : Int) := by omega
                        have j0 : (0 : Int) ≤ (j : Int) := by omega
                        have hcb := cnt_bds fq j
                        obtain ⟨tb, htb⟩ : ∃ tb, tb = tB fq j := ⟨_, rfl⟩
                        obtain ⟨ub, hub⟩ : ∃ ub, ub = wB fq j := ⟨_, rfl⟩
                        have HTS := Lib.hid (cnt_tnext fq j)
                        have HUS := Lib.hid (cnt_unext fq j)
                        rw [← htb] at HTS
                        rw [← hub] at HUS
                        obtain ⟨C1, hC1⟩ : ∃ c, c = cnt j fq 1 + cnt j fq 2 := ⟨_, rfl⟩
                        obtain ⟨C3, hC3⟩ : ∃ c, c = cnt j fq 3 := ⟨_, rfl⟩
                        have b1 : 0 ≤ C1 ∧ C1 ≤ 100000 := by rw [hC1]; omega
                        have b3 : 0 ≤ C3 ∧ C3 ≤ 100000 := by rw [hC3]; omega
                        rw [← hC1] at HTS ⊢
                        rw [← hC3] at HUS ⊢
                        have HTB := Lib.hid htb
                        have HUB := Lib.hid hub
                        clear hC1 hC3 htb hub hcb
                        have HTK : Hid (∀ x : Bw wr.heap.size wr, Calls Try.prog 13 #[.pointer (some ⟨b, 0, none⟩), .int .i64 j] x.val fun e w' => e = .returned (.bool tb) ∧ Below x.val.heap.size x.val w') := Lib.hid (fun x => by
                          have := taken_any x.val b N last fq (HOz.out.next x.ok).si (by omega) j
                          rw [tk_eq fq j hlt, ← HTB.out] at this
                          exact this)
                        go_wp2_with fail
                        refine wp_region_bw wr.heap.size (by kernel_rfl) (by kernel_rfl) ?_
                        have q7 : ∀ x : Bw wr.heap.size wr, x.val.cell? ⟨g7, j, none⟩ = some (.bool tb) := fun x => by rw [HTB.out]; exact ((HOz.out.next x.ok).r7.cell j (by rw [rowL_len]; exact hlt)).trans (rowL_get N _ j hlt)
                        have hne : (tb != tb) = false := by simp
                        repeat (go_big_quiet_step ((go_at_call 13; exact Calls.bw (Nat.le_refl _) _ (HTK.out _))))
                        refine wpQuiet_nil ?_
                        rintro w' ⟨xx, rfl⟩
                        clear q7
                        have HX := Lib.hid (HOz.out.next xx.ok)
                        have HXB := Lib.hid xx.ok
                        generalize xx.val = wy at *
                        have d7 : wy.cell? ⟨g7, j, none⟩ = some (.bool tb) := by rw [HTB.out]; exact (HX.out.r7.cell j (by rw [rowL_len]; exact hlt)).trans (rowL_get N _ j hlt)
                        have d8 : wy.cell? ⟨g8, j, none⟩ = some (.bool ub) := by rw [HUB.out]; exact (HX.out.r8.cell j (by rw [rowL_len]; exact hlt)).trans (rowL_get N _ j hlt)
                        clear HTK hne HOz HX
                        cases tb <;> cases ub
                        all_goals go_wp2_with fail
                        all_goals go_roundw
                        all_goals first
                          | (show _ < _; simp [intOf]; omega)
                          | exact ⟨j + 1, by omega, by simp [HTS.out], by simp [HUS.out], by go_num, HBZ.out.trans (HXB.out.mono HBZ.out.size)⟩
                      · obtain rfl : j = N := by omega
                        have hge : decide ((j : Int) < (j : Int)) = false := by simp
                        have HW := Lib.hid (waits_any wr b j last fq HOz.out.si)
                        have HFr := Lib.hid (free_any wr b j last fq HOz.out.si)
                        obtain ⟨hsum, q0, q1, q2, q3⟩ := HC.out
                        obtain ⟨C0, hC0⟩ : ∃ c, c = cnt j fq 0 := ⟨_, rfl⟩
                        obtain ⟨C1, hC1⟩ : ∃ c, c = cnt j fq 1 + cnt j fq 2 := ⟨_, rfl⟩
                        obtain ⟨C3, hC3⟩ : ∃ c, c = cnt j fq 3 := ⟨_, rfl⟩
                        rw [← hC1, ← hC3, ← hC0] at hsum
                        rw [← hC3] at HW
                        rw [← hC0] at HFr
                        rw [← hC1, ← hC3]
                        have b0 : 0 ≤ C0 ∧ C0 ≤ 100000 := by rw [hC0]; omega
                        have b1 : 0 ≤ C1 ∧ C1 ≤ 100000 := by rw [hC1]; omega
                        have b3 : 0 ≤ C3 ∧ C3 ≤ 100000 := by rw [hC3]; omega
                        have hn1 : (C3 != C3) = false := by simp
                        have hn2 : (C0 + C1 + C3 != (j : Int)) = false := by simp; omega
                        clear hC0 hC1 hC3 q0 q1 q2 q3 HC hlt
                        go_wp2_with fail
                        refine HW.out.mono ?_
                        rintro e w' ⟨rfl, hw⟩
                        rw [hw]
                        clear hw
                        go_wp2_with fail
                        refine HFr.out.mono ?_
                        rintro e w' ⟨rfl, hw⟩
                        rw [hw]
                        clear hw
                        go_wp2_with fail
                        go_roundw
                        case rel => exact ⟨k + 1, by omega, by go_num, _, _, _, _, _, HOz.out⟩
                        case measure => simp [intOf]; omega

              · have hj3 : decide ((j : Int) < z) = false := by simpa using hj1
                as_aux_lemma =>
                  obtain ⟨fq, hfq⟩ : ∃ q, q = f := ⟨_, rfl⟩
                  have HT : Hid (OnS w wr b N last fq g7 g8 g9 (.slice (some ⟨g7, 0, none⟩) N c7) (.slice (some ⟨g8, 0, none⟩) N c8) (.slice (some ⟨g9, 0, none⟩) N c9)) := Lib.hid (by rw [hfq]; exact HO.out)
                  clear HO hfq
                  go_wp2_with fail
                  go_loopw [15, 16, 17] (fun t u i wz => TI N fq wr t u i wz) (fun _ _ i _ => N - (intOf i).toNat)
                  case atStart => exact ⟨0, by omega, rfl, rfl, rfl, Below.refl _ _⟩
                  case round =>
                    obtain ⟨j, hj, rfl, rfl, rfl, hbz⟩ := hrel
                    have HOz := Lib.hid (HT.out.next hbz)
                    have HBZ := Lib.hid hbz
                    clear hbz HT
                    have HC := Lib.hid (cnt_all fq HOz.out.st4 N)
                    by_cases hlt : j < N
                    · have hlt' : (j : Int) < (N : Int) := by omega
                      have j0 : (0 : Int) ≤ (j : Int) := by omega
                      have hcb := cnt_bds fq j
                      obtain ⟨tb, htb⟩ : ∃ tb, tb = tB fq j := ⟨_, rfl⟩
                      obtain ⟨ub, hub⟩ : ∃ ub, ub = wB fq j := ⟨_, rfl⟩
                      have HTS := Lib.hid (cnt_tnext fq j)
                      have HUS := Lib.hid (cnt_unext fq j)
                      rw [← htb] at HTS
                      rw [← hub] at HUS
                      obtain ⟨C1, hC1⟩ : ∃ c, c = cnt j fq 1 + cnt j fq 2 := ⟨_, rfl⟩
                      obtain ⟨C3, hC3⟩ : ∃ c, c = cnt j fq 3 := ⟨_, rfl⟩
                      have b1 : 0 ≤ C1 ∧ C1 ≤ 100000 := by rw [hC1]; omega
                      have b3 : 0 ≤ C3 ∧ C3 ≤ 100000 := by rw [hC3]; omega
                      rw [← hC1] at HTS ⊢
                      rw [← hC3] at HUS ⊢
                      have HTB := Lib.hid htb
                      have HUB := Lib.hid hub
                      clear hC1 hC3 htb hub hcb
                      have HTK : Hid (∀ x : Bw wr.heap.size wr, Calls Try.prog 13 #[.pointer (some ⟨b, 0, none⟩), .int .i64 j] x.val fun e w' => e = .returned (.bool tb) ∧ Below x.val.heap.size x.val w') := Lib.hid (fun x => by
                        have := taken_any x.val b N last fq (HOz.out.next x.ok).si (by omega) j
                        rw [tk_eq fq j hlt, ← HTB.out] at this
                        exact this)
                      go_wp2_with fail
                      refine wp_region_bw wr.heap.size (by kernel_rfl) (by kernel_rfl) ?_
                      have q7 : ∀ x : Bw wr.heap.size wr, x.val.cell? ⟨g7, j, none⟩ = some (.bool tb) := fun x => by rw [HTB.out]; exact ((HOz.out.next x.ok).r7.cell j (by rw [rowL_len]; exact hlt)).trans (rowL_get N _ j hlt)
                      have hne : (tb != tb) = false := by simp
                      repeat (go_big_quiet_step ((go_at_call 13; exact Calls.bw (Nat.le_refl _) _ (HTK.out _))))
                      refine wpQuiet_nil ?_
                      rintro w' ⟨xx, rfl⟩
                      clear q7
                      have HX := Lib.hid (HOz.out.next xx.ok)
                      have HXB := Lib.hid xx.ok
                      generalize xx.val = wy at *
                      have d7 : wy.cell? ⟨g7, j, none⟩ = some (.bool tb) := by rw [HTB.out]; exact (HX.out.r7.cell j (by rw [rowL_len]; exact hlt)).trans (rowL_get N _ j hlt)
                      have d8 : wy.cell? ⟨g8, j, none⟩ = some (.bool ub) := by rw [HUB.out]; exact (HX.out.r8.cell j (by rw [rowL_len]; exact hlt)).trans (rowL_get N _ j hlt)
                      clear HTK hne HOz HX
                      cases tb <;> cases ub
                      all_goals go_wp2_with fail
                      all_goals go_roundw
                      all_goals first
                        | (show _ < _; simp [intOf]; omega)
                        | exact ⟨j + 1, by omega, by simp [HTS.out], by simp [HUS.out], by go_num, HBZ.out.trans (HXB.out.mono HBZ.out.size)⟩
                    · obtain rfl : j = N := by omega
                      have hge : decide ((j : Int) < (j : Int)) = false := by simp
                      have HW := Lib.hid (waits_any wr b j last fq HOz.out.si)
                      have HFr := Lib.hid (free_any wr b j last fq HOz.out.si)
                      obtain ⟨hsum, q0, q1, q2, q3⟩ := HC.out
                      obtain ⟨C0, hC0⟩ : ∃ c, c = cnt j fq 0 := ⟨_, rfl⟩
                      obtain ⟨C1, hC1⟩ : ∃ c, c = cnt j fq 1 + cnt j fq 2 := ⟨_, rfl⟩
                      obtain ⟨C3, hC3⟩ : ∃ c, c = cnt j fq 3 := ⟨_, rfl⟩
                      rw [← hC1, ← hC3, ← hC0] at hsum
                      rw [← hC3] at HW
                      rw [← hC0] at HFr
                      rw [← hC1, ← hC3]
                      have b0 : 0 ≤ C0 ∧ C0 ≤ 100000 := by rw [hC0]; omega
                      have b1 : 0 ≤ C1 ∧ C1 ≤ 100000 := by rw [hC1]; omega
                      have b3 : 0 ≤ C3 ∧ C3 ≤ 100000 := by rw [hC3]; omega
                      have hn1 : (C3 != C3) = false := by simp
                      have hn2 : (C0 + C1 + C3 != (j : Int)) = false := by simp; omega
                      clear hC0 hC1 hC3 q0 q1 q2 q3 HC hlt
                      go_wp2_with fail
                      refine HW.out.mono ?_
                      rintro e w' ⟨rfl, hw⟩
                      rw [hw]
                      clear hw
                      go_wp2_with fail
                      refine HFr.out.mono ?_
                      rintro e w' ⟨rfl, hw⟩
                      rw [hw]
                      clear hw
                      go_wp2_with fail
                      go_roundw
                      case rel => exact ⟨k + 1, by omega, by go_num, _, _, _, _, _, HOz.out⟩
                      case measure => simp [intOf]; omega

        · have e0' : ((kd : Int) == 0) = false := by simp; omega
          by_cases e1 : kd = 1
          · subst e1
            as_aux_lemma =>
              have HG := Lib.hid (give_any wr b N last f HO.out.si (by omega) z)
              go_wp2_with fail
              refine HG.out.mono ?_
              rintro e wt ⟨rfl, hs, hf⟩
              clear HG d1 d2
              by_cases hok : giveE N f z = 0
              · obtain ⟨x, hzx, p1, p2, p3⟩ := giveE_ok hok
                subst hzx
                rw [hok]
                have HS1 := Lib.hid (HO.out.give x p2 p1 p3 hs hf)
                have R7 := HO.out.r7.fr hf HO.out.n7
                have R8 := HO.out.r8.fr hf HO.out.n8
                have R9 := HO.out.r9.fr hf HO.out.n9
                have t7 : wt.cell? ⟨g7, x, none⟩ = some (.bool true) := by
                  rw [R7.cell x (by rw [rowL_len]; exact p2), rowL_get N _ x p2]; unfold tB; rcases p3 with h | h <;> simp [h]
                obtain ⟨bk, hbk⟩ : ∃ bk, bk = kB f x := ⟨_, rfl⟩
                obtain ⟨bw, hbw⟩ : ∃ bw, bw = wB f x := ⟨_, rfl⟩
                have t9 : wt.cell? ⟨g9, x, none⟩ = some (.bool bk) := by
                  rw [R9.cell x (by rw [rowL_len]; exact p2), rowL_get N _ x p2, hbk]
                have t8 : wt.cell? ⟨g8, x, none⟩ = some (.bool bw) := by
                  rw [R8.cell x (by rw [rowL_len]; exact p2), rowL_get N _ x p2, hbw]
                have f7 := R7.free x
                have f8 := R8.free x
                have x0 : (0 : Int) ≤ (x : Int) := by omega
                have x1 : (x : Int) < (N : Int) := by omega
                have n1 : g9 ≠ g7 := fun h => HO.out.d2 h.symm
                have n2 : g8 ≠ g7 := fun h => HO.out.d1 h.symm
                rw [← hbk] at HS1
                clear hs hf R7 R8 R9 hbk hbw hok p1 p2 p3 HO
                have HO := HS1
                clear HS1
                obtain ⟨fn, hfn⟩ : ∃ fn, fn = giveF N f x := ⟨_, rfl⟩
                rw [← hfn] at HO
                clear hfn
                go_wp2_with fail
                generalize (wt.setCell ⟨g7, x, none⟩ (.bool false)).setCell ⟨g8, x, none⟩ (.bool bk) = wu at *
                clear t7 t8 t9 f7 f8
                as_aux_lemma =>
                  obtain ⟨fq, hfq⟩ : ∃ q, q = fn := ⟨_, rfl⟩
                  have HT : Hid (OnS w wu b N last fq g7 g8 g9 (.slice (some ⟨g7, 0, none⟩) N c7) (.slice (some ⟨g8, 0, none⟩) N c8) (.slice (some ⟨g9, 0, none⟩) N c9)) := Lib.hid (by rw [hfq]; exact HO.out)
                  clear HO hfq
                  go_wp2_with fail
                  go_loopw [15, 16, 17] (fun t u i wz => TI N fq wu t u i wz) (fun _ _ i _ => N - (intOf i).toNat)
                  case atStart => exact ⟨0, by omega, rfl, rfl, rfl, Below.refl _ _⟩
                  case round =>
                    obtain ⟨j, hj, rfl, rfl, rfl, hbz⟩ := hrel
                    have HOz := Lib.hid (HT.out.next hbz)
                    have HBZ := Lib.hid hbz
                    clear hbz HT
                    have HC := Lib.hid (cnt_all fq HOz.out.st4 N)
                    by_cases hlt : j < N
                    · have hlt' : (j : Int) < (N : Int) := by omega
                      have j0 : (0 : Int) ≤ (j : Int) := by omega
                      have hcb := cnt_bds fq j
                      obtain ⟨tb, htb⟩ : ∃ tb, tb = tB fq j := ⟨_, rfl⟩
                      obtain ⟨ub, hub⟩ : ∃ ub, ub = wB fq j := ⟨_, rfl⟩
                      have HTS := Lib.hid (cnt_tnext fq j)
                      have HUS := Lib.hid (cnt_unext fq j)
                      rw [← htb] at HTS
                      rw [← hub] at HUS
                      obtain ⟨C1, hC1⟩ : ∃ c, c = cnt j fq 1 + cnt j fq 2 := ⟨_, rfl⟩
                      obtain ⟨C3, hC3⟩ : ∃ c, c = cnt j fq 3 := ⟨_, rfl⟩
                      have b1 : 0 ≤ C1 ∧ C1 ≤ 100000 := by rw [hC1]; omega
                      have b3 : 0 ≤ C3 ∧ C3 ≤ 100000 := by rw [hC3]; omega
                      rw [← hC1] at HTS ⊢
                      rw [← hC3] at HUS ⊢
                      have HTB := Lib.hid htb
                      have HUB := Lib.hid hub
                      clear hC1 hC3 htb hub hcb
                      have HTK : Hid (∀ x : Bw wr.heap.size wr, Calls Try.prog 13 #[.pointer (some ⟨b, 0, none⟩), .int .i64 j] x.val fun e w' => e = .returned (.bool tb) ∧ Below x.val.heap.size x.val w') := Lib.hid (fun x => by
                        have := taken_any x.val b N last fq (HOz.out.next x.ok).si (by omega) j
                        rw [tk_eq fq j hlt, ← HTB.out] at this
                        exact this)
                      go_wp2_with fail
                      refine wp_region_bw wr.heap.size (by kernel_rfl) (by kernel_rfl) ?_
                      have q7 : ∀ x : Bw wr.heap.size wr, x.val.cell? ⟨g7, j, none⟩ = some (.bool tb) := fun x => by rw [HTB.out]; exact ((HOz.out.next x.ok).r7.cell j (by rw [rowL_len]; exact hlt)).trans (rowL_get N _ j hlt)
                      have hne : (tb != tb) = false := by simp
                      repeat (go_big_quiet_step ((go_at_call 13; exact Calls.bw (Nat.le_refl _) _ (HTK.out _))))
                      refine wpQuiet_nil ?_
                      rintro w' ⟨xx, rfl⟩
                      clear q7
                      have HX := Lib.hid (HOz.out.next xx.ok)
                      have HXB := Lib.hid xx.ok
                      generalize xx.val = wy at *
                      have d7 : wy.cell? ⟨g7, j, none⟩ = some (.bool tb) := by rw [HTB.out]; exact (HX.out.r7.cell j (by rw [rowL_len]; exact hlt)).trans (rowL_get N _ j hlt)
                      have d8 : wy.cell? ⟨g8, j, none⟩ = some (.bool ub) := by rw [HUB.out]; exact (HX.out.r8.cell j (by rw [rowL_len]; exact hlt)).trans (rowL_get N _ j hlt)
                      clear HTK hne HOz HX
                      cases tb <;> cases ub
                      all_goals go_wp2_with fail
                      all_goals go_roundw
                      all_goals first
                        | (show _ < _; simp [intOf]; omega)
                        | exact ⟨j + 1, by omega, by simp [HTS.out], by simp [HUS.out], by go_num, HBZ.out.trans (HXB.out.mono HBZ.out.size)⟩
                    · obtain rfl : j = N := by omega
                      have hge : decide ((j : Int) < (j : Int)) = false := by simp
                      have HW := Lib.hid (waits_any wr b j last fq HOz.out.si)
                      have HFr := Lib.hid (free_any wr b j last fq HOz.out.si)
                      obtain ⟨hsum, q0, q1, q2, q3⟩ := HC.out
                      obtain ⟨C0, hC0⟩ : ∃ c, c = cnt j fq 0 := ⟨_, rfl⟩
                      obtain ⟨C1, hC1⟩ : ∃ c, c = cnt j fq 1 + cnt j fq 2 := ⟨_, rfl⟩
                      obtain ⟨C3, hC3⟩ : ∃ c, c = cnt j fq 3 := ⟨_, rfl⟩
                      rw [← hC1, ← hC3, ← hC0] at hsum
                      rw [← hC3] at HW
                      rw [← hC0] at HFr
                      rw [← hC1, ← hC3]
                      have b0 : 0 ≤ C0 ∧ C0 ≤ 100000 := by rw [hC0]; omega
                      have b1 : 0 ≤ C1 ∧ C1 ≤ 100000 := by rw [hC1]; omega
                      have b3 : 0 ≤ C3 ∧ C3 ≤ 100000 := by rw [hC3]; omega
                      have hn1 : (C3 != C3) = false := by simp
                      have hn2 : (C0 + C1 + C3 != (j : Int)) = false := by simp; omega
                      clear hC0 hC1 hC3 q0 q1 q2 q3 HC hlt
                      go_wp2_with fail
                      refine HW.out.mono ?_
                      rintro e w' ⟨rfl, hw⟩
                      rw [hw]
                      clear hw
                      go_wp2_with fail
                      refine HFr.out.mono ?_
                      rintro e w' ⟨rfl, hw⟩
                      rw [hw]
                      clear hw
                      go_wp2_with fail
                      go_roundw
                      case rel => exact ⟨k + 1, by omega, by go_num, _, _, _, _, _, HOz.out⟩
                      case measure => simp [intOf]; omega

              · have HS1 := Lib.hid (HO.out.same (giveF_not hok ▸ hs) hf)
                obtain ⟨ge, hge⟩ : ∃ ge, ge = giveE N f z := ⟨_, rfl⟩
                rw [← hge] at hok ⊢
                have hgb : (ge == 0) = false := by simpa using hok
                clear hs hf HO hge hok
                have HO := HS1
                clear HS1
                as_aux_lemma =>
                  obtain ⟨fq, hfq⟩ : ∃ q, q = f := ⟨_, rfl⟩
                  have HT : Hid (OnS w wt b N last fq g7 g8 g9 (.slice (some ⟨g7, 0, none⟩) N c7) (.slice (some ⟨g8, 0, none⟩) N c8) (.slice (some ⟨g9, 0, none⟩) N c9)) := Lib.hid (by rw [hfq]; exact HO.out)
                  clear HO hfq
                  go_wp2_with fail
                  go_loopw [15, 16, 17] (fun t u i wz => TI N fq wt t u i wz) (fun _ _ i _ => N - (intOf i).toNat)
                  case atStart => exact ⟨0, by omega, rfl, rfl, rfl, Below.refl _ _⟩
                  case round =>
                    obtain ⟨j, hj, rfl, rfl, rfl, hbz⟩ := hrel
                    have HOz := Lib.hid (HT.out.next hbz)
                    have HBZ := Lib.hid hbz
                    clear hbz HT
                    have HC := Lib.hid (cnt_all fq HOz.out.st4 N)
                    by_cases hlt : j < N
                    · have hlt' : (j : Int) < (N : Int) := by omega
                      have j0 : (0 : Int) ≤ (j : Int) := by omega
                      have hcb := cnt_bds fq j
                      obtain ⟨tb, htb⟩ : ∃ tb, tb = tB fq j := ⟨_, rfl⟩
                      obtain ⟨ub, hub⟩ : ∃ ub, ub = wB fq j := ⟨_, rfl⟩
                      have HTS := Lib.hid (cnt_tnext fq j)
                      have HUS := Lib.hid (cnt_unext fq j)
                      rw [← htb] at HTS
                      rw [← hub] at HUS
                      obtain ⟨C1, hC1⟩ : ∃ c, c = cnt j fq 1 + cnt j fq 2 := ⟨_, rfl⟩
                      obtain ⟨C3, hC3⟩ : ∃ c, c = cnt j fq 3 := ⟨_, rfl⟩
                      have b1 : 0 ≤ C1 ∧ C1 ≤ 100000 := by rw [hC1]; omega
                      have b3 : 0 ≤ C3 ∧ C3 ≤ 100000 := by rw [hC3]; omega
                      rw [← hC1] at HTS ⊢
                      rw [← hC3] at HUS ⊢
                      have HTB := Lib.hid htb
                      have HUB := Lib.hid hub
                      clear hC1 hC3 htb hub hcb
                      have HTK : Hid (∀ x : Bw wr.heap.size wr, Calls Try.prog 13 #[.pointer (some ⟨b, 0, none⟩), .int .i64 j] x.val fun e w' => e = .returned (.bool tb) ∧ Below x.val.heap.size x.val w') := Lib.hid (fun x => by
                        have := taken_any x.val b N last fq (HOz.out.next x.ok).si (by omega) j
                        rw [tk_eq fq j hlt, ← HTB.out] at this
                        exact this)
                      go_wp2_with fail
                      refine wp_region_bw wr.heap.size (by kernel_rfl) (by kernel_rfl) ?_
                      have q7 : ∀ x : Bw wr.heap.size wr, x.val.cell? ⟨g7, j, none⟩ = some (.bool tb) := fun x => by rw [HTB.out]; exact ((HOz.out.next x.ok).r7.cell j (by rw [rowL_len]; exact hlt)).trans (rowL_get N _ j hlt)
                      have hne : (tb != tb) = false := by simp
                      repeat (go_big_quiet_step ((go_at_call 13; exact Calls.bw (Nat.le_refl _) _ (HTK.out _))))
                      refine wpQuiet_nil ?_
                      rintro w' ⟨xx, rfl⟩
                      clear q7
                      have HX := Lib.hid (HOz.out.next xx.ok)
                      have HXB := Lib.hid xx.ok
                      generalize xx.val = wy at *
                      have d7 : wy.cell? ⟨g7, j, none⟩ = some (.bool tb) := by rw [HTB.out]; exact (HX.out.r7.cell j (by rw [rowL_len]; exact hlt)).trans (rowL_get N _ j hlt)
                      have d8 : wy.cell? ⟨g8, j, none⟩ = some (.bool ub) := by rw [HUB.out]; exact (HX.out.r8.cell j (by rw [rowL_len]; exact hlt)).trans (rowL_get N _ j hlt)
                      clear HTK hne HOz HX
                      cases tb <;> cases ub
                      all_goals go_wp2_with fail
                      all_goals go_roundw
                      all_goals first
                        | (show _ < _; simp [intOf]; omega)
                        | exact ⟨j + 1, by omega, by simp [HTS.out], by simp [HUS.out], by go_num, HBZ.out.trans (HXB.out.mono HBZ.out.size)⟩
                    · obtain rfl : j = N := by omega
                      have hge : decide ((j : Int) < (j : Int)) = false := by simp
                      have HW := Lib.hid (waits_any wr b j last fq HOz.out.si)
                      have HFr := Lib.hid (free_any wr b j last fq HOz.out.si)
                      obtain ⟨hsum, q0, q1, q2, q3⟩ := HC.out
                      obtain ⟨C0, hC0⟩ : ∃ c, c = cnt j fq 0 := ⟨_, rfl⟩
                      obtain ⟨C1, hC1⟩ : ∃ c, c = cnt j fq 1 + cnt j fq 2 := ⟨_, rfl⟩
                      obtain ⟨C3, hC3⟩ : ∃ c, c = cnt j fq 3 := ⟨_, rfl⟩
                      rw [← hC1, ← hC3, ← hC0] at hsum
                      rw [← hC3] at HW
                      rw [← hC0] at HFr
                      rw [← hC1, ← hC3]
                      have b0 : 0 ≤ C0 ∧ C0 ≤ 100000 := by rw [hC0]; omega
                      have b1 : 0 ≤ C1 ∧ C1 ≤ 100000 := by rw [hC1]; omega
                      have b3 : 0 ≤ C3 ∧ C3 ≤ 100000 := by rw [hC3]; omega
                      have hn1 : (C3 != C3) = false := by simp
                      have hn2 : (C0 + C1 + C3 != (j : Int)) = false := by simp; omega
                      clear hC0 hC1 hC3 q0 q1 q2 q3 HC hlt
                      go_wp2_with fail
                      refine HW.out.mono ?_
                      rintro e w' ⟨rfl, hw⟩
                      rw [hw]
                      clear hw
                      go_wp2_with fail
                      refine HFr.out.mono ?_
                      rintro e w' ⟨rfl, hw⟩
                      rw [hw]
                      clear hw
                      go_wp2_with fail
                      go_roundw
                      case rel => exact ⟨k + 1, by omega, by go_num, _, _, _, _, _, HOz.out⟩
                      case measure => simp [intOf]; omega

          · have e1' : ((kd : Int) == 1) = false := by simp; omega
            by_cases e2 : kd = 2
            · subst e2
              as_aux_lemma =>
                have HG := Lib.hid (mark_any wr b N last f HO.out.si (by omega) z)
                go_wp2_with fail
                refine HG.out.mono ?_
                rintro e wt ⟨rfl, hs, hf⟩
                clear HG d1 d2
                by_cases hok : markE N f z = 0
                · obtain ⟨x, hzx, p1, p2, p3⟩ := markE_ok hok
                  subst hzx
                  rw [hok]
                  have HS1 := Lib.hid (HO.out.mark x p2 p1 p3 hs hf)
                  have R7 := HO.out.r7.fr hf HO.out.n7
                  have R8 := HO.out.r8.fr hf HO.out.n8
                  have R9 := HO.out.r9.fr hf HO.out.n9
                  have t7 : wt.cell? ⟨g7, x, none⟩ = some (.bool false) := by
                    rw [R7.cell x (by rw [rowL_len]; exact p2), rowL_get N _ x p2]; unfold tB; simp [p3]
                  have t8 : wt.cell? ⟨g8, x, none⟩ = some (.bool false) := by
                    rw [R8.cell x (by rw [rowL_len]; exact p2), rowL_get N _ x p2]; unfold wB; simp [p3]
                  have t9 : wt.cell? ⟨g9, x, none⟩ = some (.bool false) := by
                    rw [R9.cell x (by rw [rowL_len]; exact p2), rowL_get N _ x p2]; unfold kB; simp [p3]
                  have f7 := R7.free x
                  have f9 := R9.free x
                  have x0 : (0 : Int) ≤ (x : Int) := by omega
                  have x1 : (x : Int) < (N : Int) := by omega
                  have n1 : g9 ≠ g7 := fun h => HO.out.d2 h.symm
                  clear hs hf R7 R8 R9 hok p1 p2 p3 HO
                  have HO := HS1
                  clear HS1
                  obtain ⟨fn, hfn⟩ : ∃ fn, fn = markF N f x := ⟨_, rfl⟩
                  rw [← hfn] at HO
                  clear hfn
                  go_wp2_with fail
                  generalize (wt.setCell ⟨g7, x, none⟩ (.bool true)).setCell ⟨g9, x, none⟩ (.bool true) = wu at *
                  clear t7 t8 t9 f7 f9
                  as_aux_lemma =>
                    obtain ⟨fq, hfq⟩ : ∃ q, q = fn := ⟨_, rfl⟩
                    have HT : Hid (OnS w wu b N last fq g7 g8 g9 (.slice (some ⟨g7, 0, none⟩) N c7) (.slice (some ⟨g8, 0, none⟩) N c8) (.slice (some ⟨g9, 0, none⟩) N c9)) := Lib.hid (by rw [hfq]; exact HO.out)
                    clear HO hfq
                    go_wp2_with fail
                    go_loopw [15, 16, 17] (fun t u i wz => TI N fq wu t u i wz) (fun _ _ i _ => N - (intOf i).toNat)
                    case atStart => exact ⟨0, by omega, rfl, rfl, rfl, Below.refl _ _⟩
                    case round =>
                      obtain ⟨j, hj, rfl, rfl, rfl, hbz⟩ := hrel
                      have HOz := Lib.hid (HT.out.next hbz)
                      have HBZ := Lib.hid hbz
                      clear hbz HT
                      have HC := Lib.hid (cnt_all fq HOz.out.st4 N)
                      by_cases hlt : j < N
                      · have hlt' : (j : Int) < (N : Int) := by omega
                        have j0 : (0 : Int) ≤ (j : Int) := by omega
                        have hcb := cnt_bds fq j
                        obtain ⟨tb, htb⟩ : ∃ tb, tb = tB fq j := ⟨_, rfl⟩
                        obtain ⟨ub, hub⟩ : ∃ ub, ub = wB fq j := ⟨_, rfl⟩
                        have HTS := Lib.hid (cnt_tnext fq j)
                        have HUS := Lib.hid (cnt_unext fq j)
                        rw [← htb] at HTS
                        rw [← hub] at HUS
                        obtain ⟨C1, hC1⟩ : ∃ c, c = cnt j fq 1 + cnt j fq 2 := ⟨_, rfl⟩
                        obtain ⟨C3, hC3⟩ : ∃ c, c = cnt j fq 3 := ⟨_, rfl⟩
                        have b1 : 0 ≤ C1 ∧ C1 ≤ 100000 := by rw [hC1]; omega
                        have b3 : 0 ≤ C3 ∧ C3 ≤ 100000 := by rw [hC3]; omega
                        rw [← hC1] at HTS ⊢
                        rw [← hC3] at HUS ⊢
                        have HTB := Lib.hid htb
                        have HUB := Lib.hid hub
                        clear hC1 hC3 htb hub hcb
                        have HTK : Hid (∀ x : Bw wr.heap.size wr, Calls Try.prog 13 #[.pointer (some ⟨b, 0, none⟩), .int .i64 j] x.val fun e w' => e = .returned (.bool tb) ∧ Below x.val.heap.size x.val w') := Lib.hid (fun x => by
                          have := taken_any x.val b N last fq (HOz.out.next x.ok).si (by omega) j
                          rw [tk_eq fq j hlt, ← HTB.out] at this
                          exact this)
                        go_wp2_with fail
                        refine wp_region_bw wr.heap.size (by kernel_rfl) (by kernel_rfl) ?_
                        have q7 : ∀ x : Bw wr.heap.size wr, x.val.cell? ⟨g7, j, none⟩ = some (.bool tb) := fun x => by rw [HTB.out]; exact ((HOz.out.next x.ok).r7.cell j (by rw [rowL_len]; exact hlt)).trans (rowL_get N _ j hlt)
                        have hne : (tb != tb) = false := by simp
                        repeat (go_big_quiet_step ((go_at_call 13; exact Calls.bw (Nat.le_refl _) _ (HTK.out _))))
                        refine wpQuiet_nil ?_
                        rintro w' ⟨xx, rfl⟩
                        clear q7
                        have HX := Lib.hid (HOz.out.next xx.ok)
                        have HXB := Lib.hid xx.ok
                        generalize xx.val = wy at *
                        have d7 : wy.cell? ⟨g7, j, none⟩ = some (.bool tb) := by rw [HTB.out]; exact (HX.out.r7.cell j (by rw [rowL_len]; exact hlt)).trans (rowL_get N _ j hlt)
                        have d8 : wy.cell? ⟨g8, j, none⟩ = some (.bool ub) := by rw [HUB.out]; exact (HX.out.r8.cell j (by rw [rowL_len]; exact hlt)).trans (rowL_get N _ j hlt)
                        clear HTK hne HOz HX
                        cases tb <;> cases ub
                        all_goals go_wp2_with fail
                        all_goals go_roundw
                        all_goals first
                          | (show _ < _; simp [intOf]; omega)
                          | exact ⟨j + 1, by omega, by simp [HTS.out], by simp [HUS.out], by go_num, HBZ.out.trans (HXB.out.mono HBZ.out.size)⟩
                      · obtain rfl : j = N := by omega
                        have hge : decide ((j : Int) < (j : Int)) = false := by simp
                        have HW := Lib.hid (waits_any wr b j last fq HOz.out.si)
                        have HFr := Lib.hid (free_any wr b j last fq HOz.out.si)
                        obtain ⟨hsum, q0, q1, q2, q3⟩ := HC.out
                        obtain ⟨C0, hC0⟩ : ∃ c, c = cnt j fq 0 := ⟨_, rfl⟩
                        obtain ⟨C1, hC1⟩ : ∃ c, c = cnt j fq 1 + cnt j fq 2 := ⟨_, rfl⟩
                        obtain ⟨C3, hC3⟩ : ∃ c, c = cnt j fq 3 := ⟨_, rfl⟩
                        rw [← hC1, ← hC3, ← hC0] at hsum
                        rw [← hC3] at HW
                        rw [← hC0] at HFr
                        rw [← hC1, ← hC3]
                        have b0 : 0 ≤ C0 ∧ C0 ≤ 100000 := by rw [hC0]; omega
                        have b1 : 0 ≤ C1 ∧ C1 ≤ 100000 := by rw [hC1]; omega
                        have b3 : 0 ≤ C3 ∧ C3 ≤ 100000 := by rw [hC3]; omega
                        have hn1 : (C3 != C3) = false := by simp
                        have hn2 : (C0 + C1 + C3 != (j : Int)) = false := by simp; omega
                        clear hC0 hC1 hC3 q0 q1 q2 q3 HC hlt
                        go_wp2_with fail
                        refine HW.out.mono ?_
                        rintro e w' ⟨rfl, hw⟩
                        rw [hw]
                        clear hw
                        go_wp2_with fail
                        refine HFr.out.mono ?_
                        rintro e w' ⟨rfl, hw⟩
                        rw [hw]
                        clear hw
                        go_wp2_with fail
                        go_roundw
                        case rel => exact ⟨k + 1, by omega, by go_num, _, _, _, _, _, HOz.out⟩
                        case measure => simp [intOf]; omega

                · have HS1 := Lib.hid (HO.out.same (markF_not hok ▸ hs) hf)
                  obtain ⟨ge, hge⟩ : ∃ ge, ge = markE N f z := ⟨_, rfl⟩
                  rw [← hge] at hok ⊢
                  have hgb : (ge == 0) = false := by simpa using hok
                  clear hs hf HO hge hok
                  have HO := HS1
                  clear HS1
                  as_aux_lemma =>
                    obtain ⟨fq, hfq⟩ : ∃ q, q = f := ⟨_, rfl⟩
                    have HT : Hid (OnS w wt b N last fq g7 g8 g9 (.slice (some ⟨g7, 0, none⟩) N c7) (.slice (some ⟨g8, 0, none⟩) N c8) (.slice (some ⟨g9, 0, none⟩) N c9)) := Lib.hid (by rw [hfq]; exact HO.out)
                    clear HO hfq
                    go_wp2_with fail
                    go_loopw [15, 16, 17] (fun t u i wz => TI N fq wt t u i wz) (fun _ _ i _ => N - (intOf i).toNat)
                    case atStart => exact ⟨0, by omega, rfl, rfl, rfl, Below.refl _ _⟩
                    case round =>
                      obtain ⟨j, hj, rfl, rfl, rfl, hbz⟩ := hrel
                      have HOz := Lib.hid (HT.out.next hbz)
                      have HBZ := Lib.hid hbz
                      clear hbz HT
                      have HC := Lib.hid (cnt_all fq HOz.out.st4 N)
                      by_cases hlt : j < N
                      · have hlt' : (j : Int) < (N : Int) := by omega
                        have j0 : (0 : Int) ≤ (j : Int) := by omega
                        have hcb := cnt_bds fq j
                        obtain ⟨tb, htb⟩ : ∃ tb, tb = tB fq j := ⟨_, rfl⟩
                        obtain ⟨ub, hub⟩ : ∃ ub, ub = wB fq j := ⟨_, rfl⟩
                        have HTS := Lib.hid (cnt_tnext fq j)
                        have HUS := Lib.hid (cnt_unext fq j)
                        rw [← htb] at HTS
                        rw [← hub] at HUS
                        obtain ⟨C1, hC1⟩ : ∃ c, c = cnt j fq 1 + cnt j fq 2 := ⟨_, rfl⟩
                        obtain ⟨C3, hC3⟩ : ∃ c, c = cnt j fq 3 := ⟨_, rfl⟩
                        have b1 : 0 ≤ C1 ∧ C1 ≤ 100000 := by rw [hC1]; omega
                        have b3 : 0 ≤ C3 ∧ C3 ≤ 100000 := by rw [hC3]; omega
                        rw [← hC1] at HTS ⊢
                        rw [← hC3] at HUS ⊢
                        have HTB := Lib.hid htb
                        have HUB := Lib.hid hub
                        clear hC1 hC3 htb hub hcb
                        have HTK : Hid (∀ x : Bw wr.heap.size wr, Calls Try.prog 13 #[.pointer (some ⟨b, 0, none⟩), .int .i64 j] x.val fun e w' => e = .returned (.bool tb) ∧ Below x.val.heap.size x.val w') := Lib.hid (fun x => by
                          have := taken_any x.val b N last fq (HOz.out.next x.ok).si (by omega) j
                          rw [tk_eq fq j hlt, ← HTB.out] at this
                          exact this)
                        go_wp2_with fail
                        refine wp_region_bw wr.heap.size (by kernel_rfl) (by kernel_rfl) ?_
                        have q7 : ∀ x : Bw wr.heap.size wr, x.val.cell? ⟨g7, j, none⟩ = some (.bool tb) := fun x => by rw [HTB.out]; exact ((HOz.out.next x.ok).r7.cell j (by rw [rowL_len]; exact hlt)).trans (rowL_get N _ j hlt)
                        have hne : (tb != tb) = false := by simp
                        repeat (go_big_quiet_step ((go_at_call 13; exact Calls.bw (Nat.le_refl _) _ (HTK.out _))))
                        refine wpQuiet_nil ?_
                        rintro w' ⟨xx, rfl⟩
                        clear q7
                        have HX := Lib.hid (HOz.out.next xx.ok)
                        have HXB := Lib.hid xx.ok
                        generalize xx.val = wy at *
                        have d7 : wy.cell? ⟨g7, j, none⟩ = some (.bool tb) := by rw [HTB.out]; exact (HX.out.r7.cell j (by rw [rowL_len]; exact hlt)).trans (rowL_get N _ j hlt)
                        have d8 : wy.cell? ⟨g8, j, none⟩ = some (.bool ub) := by rw [HUB.out]; exact (HX.out.r8.cell j (by rw [rowL_len]; exact hlt)).trans (rowL_get N _ j hlt)
                        clear HTK hne HOz HX
                        cases tb <;> cases ub
                        all_goals go_wp2_with fail
                        all_goals go_roundw
                        all_goals first
                          | (show _ < _; simp [intOf]; omega)
                          | exact ⟨j + 1, by omega, by simp [HTS.out], by simp [HUS.out], by go_num, HBZ.out.trans (HXB.out.mono HBZ.out.size)⟩
                      · obtain rfl : j = N := by omega
                        have hge : decide ((j : Int) < (j : Int)) = false := by simp
                        have HW := Lib.hid (waits_any wr b j last fq HOz.out.si)
                        have HFr := Lib.hid (free_any wr b j last fq HOz.out.si)
                        obtain ⟨hsum, q0, q1, q2, q3⟩ := HC.out
                        obtain ⟨C0, hC0⟩ : ∃ c, c = cnt j fq 0 := ⟨_, rfl⟩
                        obtain ⟨C1, hC1⟩ : ∃ c, c = cnt j fq 1 + cnt j fq 2 := ⟨_, rfl⟩
                        obtain ⟨C3, hC3⟩ : ∃ c, c = cnt j fq 3 := ⟨_, rfl⟩
                        rw [← hC1, ← hC3, ← hC0] at hsum
                        rw [← hC3] at HW
                        rw [← hC0] at HFr
                        rw [← hC1, ← hC3]
                        have b0 : 0 ≤ C0 ∧ C0 ≤ 100000 := by rw [hC0]; omega
                        have b1 : 0 ≤ C1 ∧ C1 ≤ 100000 := by rw [hC1]; omega
                        have b3 : 0 ≤ C3 ∧ C3 ≤ 100000 := by rw [hC3]; omega
                        have hn1 : (C3 != C3) = false := by simp
                        have hn2 : (C0 + C1 + C3 != (j : Int)) = false := by simp; omega
                        clear hC0 hC1 hC3 q0 q1 q2 q3 HC hlt
                        go_wp2_with fail
                        refine HW.out.mono ?_
                        rintro e w' ⟨rfl, hw⟩
                        rw [hw]
                        clear hw
                        go_wp2_with fail
                        refine HFr.out.mono ?_
                        rintro e w' ⟨rfl, hw⟩
                        rw [hw]
                        clear hw
                        go_wp2_with fail
                        go_roundw
                        case rel => exact ⟨k + 1, by omega, by go_num, _, _, _, _, _, HOz.out⟩
                        case measure => simp [intOf]; omega

            · have e2' : ((kd : Int) == 2) = false := by simp; omega
              by_cases e3 : kd = 3
              · subst e3
                as_aux_lemma =>
                  have HG := Lib.hid (settle_any wr b N last f HO.out.si (by omega) (by omega))
                  go_wp2_with fail
                  refine HG.out.mono ?_
                  rintro e wt ⟨rfl, hs, hf⟩
                  clear HG d1 d2
                  have hm1 := make29 wt N hN1
                  have hr8 := BR.made wt N hN1
                  have hal1 : Below wt.heap.size wt (wt.alloc (.cells (List.replicate N (Value.bool false)).toArray 4)) := (Below.refl _ _).alloc (Nat.le_refl _) _
                  obtain ⟨m8, hg8⟩ : ∃ g, g = wt.heap.size := ⟨_, rfl⟩
                  have k8 : wt.heap.size ≤ wt.heap.size := Nat.le_refl _
                  generalize wt.alloc (.cells (List.replicate N (Value.bool false)).toArray 4) = wa at *
                  rw [← hg8] at hm1
                  have h7 := ((HO.out.r7.fr hf HO.out.n7).next hal1)
                  rw [show (Value.slice (some ⟨g7, 0, none⟩) N c7) = .slice (some ⟨g7, 0, none⟩) (rowL N (tB f)).length c7 from by rw [rowL_len]] at h7
                  obtain ⟨m9, cap9, wu, hrun, hr9, hge9, hb9⟩ := app29 wa g7 c7 (rowL N (tB f)) h7 (rowL_one _ _) (by rw [rowL_len]; exact hN1) (by rw [rowL_len]; omega)
                  rw [rowL_len] at hrun hr9
                  have HRUN := Lib.hid hrun
                  have HS1 := Lib.hid (HO.out.settle (by omega) hs hf (rowL_false N ▸ hr8) hal1 k8 hr9 hb9 hge9)
                  clear h7 hrun hr9 hge9 hb9 hs hf hr8 hal1 HO
                  have HO := HS1
                  clear HS1
                  rw [← hg8] at HO
                  clear hg8 k8
                  go_wp2_with (at_builtin; refine wpList_app rfl (.tmp 161) (.tmp 162) 29 29 rfl rfl HRUN.out rfl rfl ?_)
                  clear HRUN hm1
                  generalize wa.heap.size = za at *
                  as_aux_lemma =>
                    obtain ⟨fq, hfq⟩ : ∃ q, q = (stF N f) := ⟨_, rfl⟩
                    have HT : Hid (OnS w wu b N last fq g7 m8 m9 (.slice (some ⟨g7, 0, none⟩) N c7) (.slice (some ⟨m8, 0, none⟩) N N) (.slice (some ⟨m9, 0, none⟩) N cap9)) := Lib.hid (by rw [hfq]; exact HO.out)
                    clear HO hfq
                    go_wp2_with fail
                    go_loopw [15, 16, 17] (fun t u i wz => TI N fq wu t u i wz) (fun _ _ i _ => N - (intOf i).toNat)
                    case atStart => exact ⟨0, by omega, rfl, rfl, rfl, Below.refl _ _⟩
                    case round =>
                      obtain ⟨j, hj, rfl, rfl, rfl, hbz⟩ := hrel
                      have HOz := Lib.hid (HT.out.next hbz)
                      have HBZ := Lib.hid hbz
                      clear hbz HT
                      have HC := Lib.hid (cnt_all fq HOz.out.st4 N)
                      by_cases hlt : j < N
                      · have hlt' : (j : Int) < (N : Int) := by omega
                        have j0 : (0 : Int) ≤ (j : Int) := by omega
                        have hcb := cnt_bds fq j
                        obtain ⟨tb, htb⟩ : ∃ tb, tb = tB fq j := ⟨_, rfl⟩
                        obtain ⟨ub, hub⟩ : ∃ ub, ub = wB fq j := ⟨_, rfl⟩
                        have HTS := Lib.hid (cnt_tnext fq j)
                        have HUS := Lib.hid (cnt_unext fq j)
                        rw [← htb] at HTS
                        rw [← hub] at HUS
                        obtain ⟨C1, hC1⟩ : ∃ c, c = cnt j fq 1 + cnt j fq 2 := ⟨_, rfl⟩
                        obtain ⟨C3, hC3⟩ : ∃ c, c = cnt j fq 3 := ⟨_, rfl⟩
                        have b1 : 0 ≤ C1 ∧ C1 ≤ 100000 := by rw [hC1]; omega
                        have b3 : 0 ≤ C3 ∧ C3 ≤ 100000 := by rw [hC3]; omega
                        rw [← hC1] at HTS ⊢
                        rw [← hC3] at HUS ⊢
                        have HTB := Lib.hid htb
                        have HUB := Lib.hid hub
                        clear hC1 hC3 htb hub hcb
                        have HTK : Hid (∀ x : Bw wr.heap.size wr, Calls Try.prog 13 #[.pointer (some ⟨b, 0, none⟩), .int .i64 j] x.val fun e w' => e = .returned (.bool tb) ∧ Below x.val.heap.size x.val w') := Lib.hid (fun x => by
                          have := taken_any x.val b N last fq (HOz.out.next x.ok).si (by omega) j
                          rw [tk_eq fq j hlt, ← HTB.out] at this
                          exact this)
                        go_wp2_with fail
                        refine wp_region_bw wr.heap.size (by kernel_rfl) (by kernel_rfl) ?_
                        have q7 : ∀ x : Bw wr.heap.size wr, x.val.cell? ⟨g7, j, none⟩ = some (.bool tb) := fun x => by rw [HTB.out]; exact ((HOz.out.next x.ok).r7.cell j (by rw [rowL_len]; exact hlt)).trans (rowL_get N _ j hlt)
                        have hne : (tb != tb) = false := by simp
                        repeat (go_big_quiet_step ((go_at_call 13; exact Calls.bw (Nat.le_refl _) _ (HTK.out _))))
                        refine wpQuiet_nil ?_
                        rintro w' ⟨xx, rfl⟩
                        clear q7
                        have HX := Lib.hid (HOz.out.next xx.ok)
                        have HXB := Lib.hid xx.ok
                        generalize xx.val = wy at *
                        have d7 : wy.cell? ⟨g7, j, none⟩ = some (.bool tb) := by rw [HTB.out]; exact (HX.out.r7.cell j (by rw [rowL_len]; exact hlt)).trans (rowL_get N _ j hlt)
                        have d8 : wy.cell? ⟨m8, j, none⟩ = some (.bool ub) := by rw [HUB.out]; exact (HX.out.r8.cell j (by rw [rowL_len]; exact hlt)).trans (rowL_get N _ j hlt)
                        clear HTK hne HOz HX
                        cases tb <;> cases ub
                        all_goals go_wp2_with fail
                        all_goals go_roundw
                        all_goals first
                          | (show _ < _; simp [intOf]; omega)
                          | exact ⟨j + 1, by omega, by simp [HTS.out], by simp [HUS.out], by go_num, HBZ.out.trans (HXB.out.mono HBZ.out.size)⟩
                      · obtain rfl : j = N := by omega
                        have hge : decide ((j : Int) < (j : Int)) = false := by simp
                        have HW := Lib.hid (waits_any wr b j last fq HOz.out.si)
                        have HFr := Lib.hid (free_any wr b j last fq HOz.out.si)
                        obtain ⟨hsum, q0, q1, q2, q3⟩ := HC.out
                        obtain ⟨C0, hC0⟩ : ∃ c, c = cnt j fq 0 := ⟨_, rfl⟩
                        obtain ⟨C1, hC1⟩ : ∃ c, c = cnt j fq 1 + cnt j fq 2 := ⟨_, rfl⟩
                        obtain ⟨C3, hC3⟩ : ∃ c, c = cnt j fq 3 := ⟨_, rfl⟩
                        rw [← hC1, ← hC3, ← hC0] at hsum
                        rw [← hC3] at HW
                        rw [← hC0] at HFr
                        rw [← hC1, ← hC3]
                        have b0 : 0 ≤ C0 ∧ C0 ≤ 100000 := by rw [hC0]; omega
                        have b1 : 0 ≤ C1 ∧ C1 ≤ 100000 := by rw [hC1]; omega
                        have b3 : 0 ≤ C3 ∧ C3 ≤ 100000 := by rw [hC3]; omega
                        have hn1 : (C3 != C3) = false := by simp
                        have hn2 : (C0 + C1 + C3 != (j : Int)) = false := by simp; omega
                        clear hC0 hC1 hC3 q0 q1 q2 q3 HC hlt
                        go_wp2_with fail
                        refine HW.out.mono ?_
                        rintro e w' ⟨rfl, hw⟩
                        rw [hw]
                        clear hw
                        go_wp2_with fail
                        refine HFr.out.mono ?_
                        rintro e w' ⟨rfl, hw⟩
                        rw [hw]
                        clear hw
                        go_wp2_with fail
                        go_roundw
                        case rel => exact ⟨k + 1, by omega, by go_num, _, _, _, _, _, HOz.out⟩
                        case measure => simp [intOf]; omega

              · have e3' : ((kd : Int) == 3) = false := by simp; omega
                as_aux_lemma =>
                  have HG := Lib.hid (back_any wr b N last f HO.out.si (by omega) (by omega))
                  go_wp2_with fail
                  refine HG.out.mono ?_
                  rintro e wt ⟨rfl, hs, hf⟩
                  clear HG d1 d2
                  have hm1 := make29 wt N hN1
                  have hr8 := BR.made wt N hN1
                  have hal1 : Below wt.heap.size wt (wt.alloc (.cells (List.replicate N (Value.bool false)).toArray 4)) := (Below.refl _ _).alloc (Nat.le_refl _) _
                  obtain ⟨m8, hg8⟩ : ∃ g, g = wt.heap.size := ⟨_, rfl⟩
                  have k8 : wt.heap.size ≤ wt.heap.size := Nat.le_refl _
                  generalize wt.alloc (.cells (List.replicate N (Value.bool false)).toArray 4) = wa at *
                  rw [← hg8] at hm1
                  have h9 := ((HO.out.r9.fr hf HO.out.n9).next hal1)
                  rw [show (Value.slice (some ⟨g9, 0, none⟩) N c9) = .slice (some ⟨g9, 0, none⟩) (rowL N (kB f)).length c9 from by rw [rowL_len]] at h9
                  obtain ⟨m7, cap7, wu, hrun, hr7, hge7, hb7⟩ := app29 wa g9 c9 (rowL N (kB f)) h9 (rowL_one _ _) (by rw [rowL_len]; exact hN1) (by rw [rowL_len]; omega)
                  rw [rowL_len] at hrun hr7
                  have HRUN := Lib.hid hrun
                  have HS1 := Lib.hid (HO.out.back (by omega) hs hf (rowL_false N ▸ hr8) hal1 k8 hr7 hb7 hge7)
                  clear h9 hrun hr7 hge7 hb7 hs hf hr8 hal1 HO
                  have HO := HS1
                  clear HS1
                  rw [← hg8] at HO
                  clear hg8 k8
                  go_wp2_with (at_builtin; refine wpList_app rfl (.tmp 69) (.tmp 70) 29 29 rfl rfl HRUN.out rfl rfl ?_)
                  clear HRUN hm1
                  generalize wa.heap.size = za at *
                  as_aux_lemma =>
                    obtain ⟨fq, hfq⟩ : ∃ q, q = (bkF N f) := ⟨_, rfl⟩
                    have HT : Hid (OnS w wu b N last fq m7 m8 g9 (.slice (some ⟨m7, 0, none⟩) N cap7) (.slice (some ⟨m8, 0, none⟩) N N) (.slice (some ⟨g9, 0, none⟩) N c9)) := Lib.hid (by rw [hfq]; exact HO.out)
                    clear HO hfq
                    go_wp2_with fail
                    go_loopw [15, 16, 17] (fun t u i wz => TI N fq wu t u i wz) (fun _ _ i _ => N - (intOf i).toNat)
                    case atStart => exact ⟨0, by omega, rfl, rfl, rfl, Below.refl _ _⟩
                    case round =>
                      obtain ⟨j, hj, rfl, rfl, rfl, hbz⟩ := hrel
                      have HOz := Lib.hid (HT.out.next hbz)
                      have HBZ := Lib.hid hbz
                      clear hbz HT
                      have HC := Lib.hid (cnt_all fq HOz.out.st4 N)
                      by_cases hlt : j < N
                      · have hlt' : (j : Int) < (N : Int) := by omega
                        have j0 : (0 : Int) ≤ (j : Int) := by omega
                        have hcb := cnt_bds fq j
                        obtain ⟨tb, htb⟩ : ∃ tb, tb = tB fq j := ⟨_, rfl⟩
                        obtain ⟨ub, hub⟩ : ∃ ub, ub = wB fq j := ⟨_, rfl⟩
                        have HTS := Lib.hid (cnt_tnext fq j)
                        have HUS := Lib.hid (cnt_unext fq j)
                        rw [← htb] at HTS
                        rw [← hub] at HUS
                        obtain ⟨C1, hC1⟩ : ∃ c, c = cnt j fq 1 + cnt j fq 2 := ⟨_, rfl⟩
                        obtain ⟨C3, hC3⟩ : ∃ c, c = cnt j fq 3 := ⟨_, rfl⟩
                        have b1 : 0 ≤ C1 ∧ C1 ≤ 100000 := by rw [hC1]; omega
                        have b3 : 0 ≤ C3 ∧ C3 ≤ 100000 := by rw [hC3]; omega
                        rw [← hC1] at HTS ⊢
                        rw [← hC3] at HUS ⊢
                        have HTB := Lib.hid htb
                        have HUB := Lib.hid hub
                        clear hC1 hC3 htb hub hcb
                        have HTK : Hid (∀ x : Bw wr.heap.size wr, Calls Try.prog 13 #[.pointer (some ⟨b, 0, none⟩), .int .i64 j] x.val fun e w' => e = .returned (.bool tb) ∧ Below x.val.heap.size x.val w') := Lib.hid (fun x => by
                          have := taken_any x.val b N last fq (HOz.out.next x.ok).si (by omega) j
                          rw [tk_eq fq j hlt, ← HTB.out] at this
                          exact this)
                        go_wp2_with fail
                        refine wp_region_bw wr.heap.size (by kernel_rfl) (by kernel_rfl) ?_
                        have q7 : ∀ x : Bw wr.heap.size wr, x.val.cell? ⟨m7, j, none⟩ = some (.bool tb) := fun x => by rw [HTB.out]; exact ((HOz.out.next x.ok).r7.cell j (by rw [rowL_len]; exact hlt)).trans (rowL_get N _ j hlt)
                        have hne : (tb != tb) = false := by simp
                        repeat (go_big_quiet_step ((go_at_call 13; exact Calls.bw (Nat.le_refl _) _ (HTK.out _))))
                        refine wpQuiet_nil ?_
                        rintro w' ⟨xx, rfl⟩
                        clear q7
                        have HX := Lib.hid (HOz.out.next xx.ok)
                        have HXB := Lib.hid xx.ok
                        generalize xx.val = wy at *
                        have d7 : wy.cell? ⟨m7, j, none⟩ = some (.bool tb) := by rw [HTB.out]; exact (HX.out.r7.cell j (by rw [rowL_len]; exact hlt)).trans (rowL_get N _ j hlt)
                        have d8 : wy.cell? ⟨m8, j, none⟩ = some (.bool ub) := by rw [HUB.out]; exact (HX.out.r8.cell j (by rw [rowL_len]; exact hlt)).trans (rowL_get N _ j hlt)
                        clear HTK hne HOz HX
                        cases tb <;> cases ub
                        all_goals go_wp2_with fail
                        all_goals go_roundw
                        all_goals first
                          | (show _ < _; simp [intOf]; omega)
                          | exact ⟨j + 1, by omega, by simp [HTS.out], by simp [HUS.out], by go_num, HBZ.out.trans (HXB.out.mono HBZ.out.size)⟩
                      · obtain rfl : j = N := by omega
                        have hge : decide ((j : Int) < (j : Int)) = false := by simp
                        have HW := Lib.hid (waits_any wr b j last fq HOz.out.si)
                        have HFr := Lib.hid (free_any wr b j last fq HOz.out.si)
                        obtain ⟨hsum, q0, q1, q2, q3⟩ := HC.out
                        obtain ⟨C0, hC0⟩ : ∃ c, c = cnt j fq 0 := ⟨_, rfl⟩
                        obtain ⟨C1, hC1⟩ : ∃ c, c = cnt j fq 1 + cnt j fq 2 := ⟨_, rfl⟩
                        obtain ⟨C3, hC3⟩ : ∃ c, c = cnt j fq 3 := ⟨_, rfl⟩
                        rw [← hC1, ← hC3, ← hC0] at hsum
                        rw [← hC3] at HW
                        rw [← hC0] at HFr
                        rw [← hC1, ← hC3]
                        have b0 : 0 ≤ C0 ∧ C0 ≤ 100000 := by rw [hC0]; omega
                        have b1 : 0 ≤ C1 ∧ C1 ≤ 100000 := by rw [hC1]; omega
                        have b3 : 0 ≤ C3 ∧ C3 ≤ 100000 := by rw [hC3]; omega
                        have hn1 : (C3 != C3) = false := by simp
                        have hn2 : (C0 + C1 + C3 != (j : Int)) = false := by simp; omega
                        clear hC0 hC1 hC3 q0 q1 q2 q3 HC hlt
                        go_wp2_with fail
                        refine HW.out.mono ?_
                        rintro e w' ⟨rfl, hw⟩
                        rw [hw]
                        clear hw
                        go_wp2_with fail
                        refine HFr.out.mono ?_
                        rintro e w' ⟨rfl, hw⟩
                        rw [hw]
                        clear hw
                        go_wp2_with fail
                        go_roundw
                        case rel => exact ⟨k + 1, by omega, by go_num, _, _, _, _, _, HOz.out⟩
                        case measure => simp [intOf]; omega

      · have hge : decide ((k : Int) < (n : Int)) = false := by simp; omega
        go_wp2_with fail
        all_goals refine bodyPost_ret (by simp [results, Try.results3, go_sem]; rfl) rfl ?_
        all_goals exact ⟨rfl, HO.out.be⟩

end Go.Proofs.Ytbkbfkaklhojgaa
