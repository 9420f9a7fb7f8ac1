/- makeRoom. -/
import Derived.Test.YtefjpljjdjecjaaWd
namespace Go.Proofs.Ytefjpljjdjecjaa
open Go.RowKit
theorem RA.nextb {w w' : World} {cb : Nat} {R : Nat → List It} {m : Value} {room target : Int} (h : RA w cb R m room target) (hb : Below w.heap.size w w') : RA w' cb R m room target :=
  h.fr (M := fun _ => False) (Fr.of_below hb) (fun h => h) (fun _ _ h => h)
theorem CA.fr {M : Nat → Prop} {w w' : World} {cb : Nat} {s : Cs} (h : CA w cb s) (hf : Fr M w w') (hM : ∀ k, M k → ¬ Own cb s k) (hd : ∀ x ∈ allI s.R, ∀ d, x.d = some d → ¬ M d) : CA w' cb s :=
  ⟨h.ra.fr hf (fun hm => hM _ hm (.inl rfl)) (fun x hx hm => hM _ hm (.inr (.inr ⟨x, hx, rfl⟩))), h.mp.fr hf (fun hm => hM _ hm (.inr (.inl rfl))), h.nk, h.mc, h.mi, fun x hx d hxd => ⟨(h.dt x hx d hxd).1.fr hf (hd x hx d hxd), (h.dt x hx d hxd).2⟩, h.rm, h.tg⟩
theorem CA.nextb {w w' : World} {cb : Nat} {s : Cs} (h : CA w cb s) (hb : Below w.heap.size w w') : CA w' cb s := h.fr (M := fun _ => False) (Fr.of_below hb) (fun _ h => h.elim) (fun _ _ _ _ h => h)
theorem size_val (w : World) (cb : Nat) (R : Nat → List It) (m : Value) (room target : Int) (r : Nat) (z v : Int) (hr : r < 4) (hz : z = r) (hv : v = (R r).length) (h : RA w cb R m room target) :
    Calls Try.prog 40 #[.pointer (some ⟨cb, 0, none⟩), .int .i64 z] w fun e w' => e = .returned (.int .i64 v) ∧ w = w' := by
  subst hz hv; exact size_any w cb R m room target h r hr
theorem ghost_val (w : World) (cb : Nat) (s : Cs) (f g : Nat) (a b : Int) (ha : a = f) (hb : b = g) (h : CA w cb s) (hf : f < 4) (hg : g < 4) (hfg : f ≠ g) (hlen : (s.R g).length < 100000) : Calls Try.prog 43 #[.pointer (some ⟨cb, 0, none⟩), .int .i64 a, .int .i64 b] w (Goes cb s (ghostF s f g) w) := by
  subst ha hb; exact ghost_any w cb s h f g hf hg hfg hlen
theorem forget_val (w : World) (cb : Nat) (s : Cs) (r : Nat) (a : Int) (ha : a = r) (h : CA w cb s) (hr : r < 4) : Calls Try.prog 42 #[.pointer (some ⟨cb, 0, none⟩), .int .i64 a] w (Goes cb s (forgetF s r) w) := by
  subst ha; exact forget_any w cb s h r hr
def roomF (s : Cs) (g : Bool) : Cs :=
  if ((s.R 0).length : Int) + (s.R 1).length < s.room then s
  else if 0 < ((s.R 0).length : Int) ∧ (((s.R 1).length : Int) = 0 ∨ s.target < (s.R 0).length ∨ (g = true ∧ ((s.R 0).length : Int) = s.target)) then ghostF s 0 2 else ghostF s 1 3
theorem Goes.drop {cb : Nat} {s s' : Cs} {w w0 : World} {e : Ending} {w' : World} (h : Goes cb s s' w e w') (hb : Below w0.heap.size w0 w) : Goes cb s s' w0 e w' :=
  ⟨h.1, h.2.1, (Fr.of_below hb).trans h.2.2.1, fun k hk => (h.2.2.2 k hk).imp id (Nat.le_trans hb.size)⟩

set_option maxHeartbeats 2000000 in
/-- Up to the test. -/
theorem room_go (w : World) (cb : Nat) (s : Cs) (g : Bool) (h : CA w cb s) (t1 t2 : Int) (H1 : Hid (t1 = (s.R 0).length)) (H2 : Hid (t2 = (s.R 1).length)) (h10 : 0 ≤ t1) (h11 : t1 ≤ 100000) (h20 : 0 ≤ t2) (h21 : t2 ≤ 100000) (l2 : (s.R 2).length < 100000) (l3 : (s.R 3).length < 100000)
    (room target : Int) (hroom : room = s.room) (htarget : target = s.target)
    (c : (t1 + t2 < room ∧ roomF s g = s) ∨ (room ≤ t1 + t2 ∧ t1 ≤ 0 ∧ roomF s g = ghostF s 1 3) ∨ (room ≤ t1 + t2 ∧ 0 < t1 ∧ t2 = 0 ∧ roomF s g = ghostF s 0 2) ∨ (room ≤ t1 + t2 ∧ 0 < t1 ∧ 0 < t2 ∧ target < t1 ∧ roomF s g = ghostF s 0 2) ∨
      (room ≤ t1 + t2 ∧ 0 < t1 ∧ 0 < t2 ∧ t1 ≤ target ∧ g = false ∧ roomF s g = ghostF s 1 3) ∨ (room ≤ t1 + t2 ∧ 0 < t1 ∧ 0 < t2 ∧ t1 = target ∧ g = true ∧ roomF s g = ghostF s 0 2) ∨ (room ≤ t1 + t2 ∧ 0 < t1 ∧ 0 < t2 ∧ t1 < target ∧ g = true ∧ roomF s g = ghostF s 1 3)) :
    Calls Try.prog 41 #[.pointer (some ⟨cb, 0, none⟩), .bool g] w (Goes cb s (roomF s g) w) := by
  have H := Lib.hid h
  clear h
  obtain ⟨s', hs'⟩ : ∃ s', s' = roomF s g := ⟨_, rfl⟩
  rw [← hs'] at c ⊢
  clear hs'
  have HC := Lib.hid c
  clear c
  go_enter Try.func41, Try.ntmps41
  go_wp2_with fail
  refine wp_region_parts (by kernel_rfl) (by kernel_rfl) ?_
  have hb0 : Below w.heap.size w w.drew := (Below.refl _ _).drew
  generalize w.drew = W at *
  apply regL_lq W.heap.size
  intro D hD hn
  have raX := fun x : Bd W.heap.size W D => Lib.hid (H.out.ra.nextb (bt hb0 x.ok))
  repeat (apply wpLQ_pin rfl rfl; intro K hK; go_big_quiet_op; (first | go_big_quiet_on | go_big_quiet_call (first | (go_at_call 40; with_reducible exact Calls.bds _ (size_val _ cb s.R _ _ _ 0 0 t1 (by decide) rfl H1.out (raX _).out)) | (go_at_call 40; with_reducible exact Calls.bds _ (size_val _ cb s.R _ _ _ 1 1 t2 (by decide) rfl H2.out (raX _).out)))); apply And.intro rfl)
  apply wpLQ_nil (by simp)
  intro W1 hb _
  clear raX hn hD
  replace hb := bt hb0 hb
  clear hb0
  have HA := Lib.hid (H.out.nextb hb)
  have c13 : W1.cell? ⟨cb, 13, none⟩ = some (.int .i64 room) := by rw [hroom]; exact HA.out.ra.row.cell 13
  have c14 : W1.cell? ⟨cb, 14, none⟩ = some (.int .i64 target) := by rw [htarget]; exact HA.out.ra.row.cell 14
  have HB := Lib.hid hb
  clear hb hroom htarget
  rcases HC.out with ⟨d1, e⟩ | ⟨d1, d2, e⟩ | ⟨d1, d2, d3, e⟩ | ⟨d1, d2, d3, d4, e⟩ | ⟨d1, d2, d3, d4, d5, e⟩ | ⟨d1, d2, d3, d4, d5, e⟩ | ⟨d1, d2, d3, d4, d5, e⟩
  · have HE := Lib.hid e
    clear e HC
    go_wp2
    refine bodyPost_ret (results_none rfl _ _ _) rfl ?_
    rw [HE.out]
    exact ⟨rfl, HA.out, Fr.of_below HB.out, fun k hk => .inl hk⟩
  · have HE := Lib.hid e
    have b1 : decide (t1 + t2 < room) = false := by simp; omega
    have b2 : decide (0 < t1) = false := by simp; omega
    clear e HC
    go_wp2_with fail
    refine (ghost_val _ cb s 1 3 _ _ rfl rfl HA.out (by decide) (by decide) (by decide) l3).mono ?_
    rintro e w3 hg
    have HG := Lib.hid hg
    obtain rfl := hg.1
    clear hg
    go_wp2
    first | go_end0 | (refine bodyPost_ret (results_none rfl _ _ _) rfl ?_)
    rw [HE.out]
    exact HG.out.drop HB.out
  · have HE := Lib.hid e
    subst d3
    have b1 : decide (t1 + 0 < room) = false := by simp; omega
    have b2 : decide (0 < t1) = true := by simp; omega
    clear e HC
    go_wp2_with fail
    refine (ghost_val _ cb s 0 2 _ _ rfl rfl HA.out (by decide) (by decide) (by decide) l2).mono ?_
    rintro e w3 hg
    have HG := Lib.hid hg
    obtain rfl := hg.1
    clear hg
    go_wp2
    first | go_end0 | (refine bodyPost_ret (results_none rfl _ _ _) rfl ?_)
    rw [HE.out]
    exact HG.out.drop HB.out
  · have HE := Lib.hid e
    have b1 : decide (t1 + t2 < room) = false := by simp; omega
    have b2 : decide (0 < t1) = true := by simp; omega
    have b3 : (t2 == 0) = false := by simp; omega
    have b4 : decide (target < t1) = true := by simp; omega
    clear e HC
    go_wp2_with fail
    refine (ghost_val _ cb s 0 2 _ _ rfl rfl HA.out (by decide) (by decide) (by decide) l2).mono ?_
    rintro e w3 hg
    have HG := Lib.hid hg
    obtain rfl := hg.1
    clear hg
    go_wp2
    first | go_end0 | (refine bodyPost_ret (results_none rfl _ _ _) rfl ?_)
    rw [HE.out]
    exact HG.out.drop HB.out
  · have HE := Lib.hid e
    subst d5
    have b1 : decide (t1 + t2 < room) = false := by simp; omega
    have b2 : decide (0 < t1) = true := by simp; omega
    have b3 : (t2 == 0) = false := by simp; omega
    have b4 : decide (target < t1) = false := by simp; omega
    clear e HC
    go_wp2_with fail
    refine (ghost_val _ cb s 1 3 _ _ rfl rfl HA.out (by decide) (by decide) (by decide) l3).mono ?_
    rintro e w3 hg
    have HG := Lib.hid hg
    obtain rfl := hg.1
    clear hg
    go_wp2
    first | go_end0 | (refine bodyPost_ret (results_none rfl _ _ _) rfl ?_)
    rw [HE.out]
    exact HG.out.drop HB.out
  · have HE := Lib.hid e
    subst d5 d4
    have b1 : decide (t1 + t2 < room) = false := by simp; omega
    have b2 : decide (0 < t1) = true := by simp; omega
    have b3 : (t2 == 0) = false := by simp; omega
    clear e HC
    go_wp2_with fail
    refine (ghost_val _ cb s 0 2 _ _ rfl rfl HA.out (by decide) (by decide) (by decide) l2).mono ?_
    rintro e w3 hg
    have HG := Lib.hid hg
    obtain rfl := hg.1
    clear hg
    go_wp2
    first | go_end0 | (refine bodyPost_ret (results_none rfl _ _ _) rfl ?_)
    rw [HE.out]
    exact HG.out.drop HB.out
  · have HE := Lib.hid e
    subst d5
    have b1 : decide (t1 + t2 < room) = false := by simp; omega
    have b2 : decide (0 < t1) = true := by simp; omega
    have b3 : (t2 == 0) = false := by simp; omega
    have b4 : decide (target < t1) = false := by simp; omega
    have b5 : (t1 == target) = false := by simp; omega
    clear e HC
    go_wp2_with fail
    refine (ghost_val _ cb s 1 3 _ _ rfl rfl HA.out (by decide) (by decide) (by decide) l3).mono ?_
    rintro e w3 hg
    have HG := Lib.hid hg
    obtain rfl := hg.1
    clear hg
    go_wp2
    first | go_end0 | (refine bodyPost_ret (results_none rfl _ _ _) rfl ?_)
    rw [HE.out]
    exact HG.out.drop HB.out

theorem room_any (w : World) (cb : Nat) (s : Cs) (g : Bool) (h : CA w cb s) (l2 : (s.R 2).length < 100000) (l3 : (s.R 3).length < 100000) : Calls Try.prog 41 #[.pointer (some ⟨cb, 0, none⟩), .bool g] w (Goes cb s (roomF s g) w) := by
  have n0 := h.ra.len 0 (by decide)
  have n1 := h.ra.len 1 (by decide)
  refine room_go w cb s g h _ _ (Lib.hid rfl) (Lib.hid rfl) (by omega) (by omega) (by omega) (by omega) l2 l3 _ _ rfl rfl ?_
  unfold roomF
  by_cases a1 : ((s.R 0).length : Int) + (s.R 1).length < s.room
  · exact .inl ⟨a1, if_pos a1⟩
  · rw [if_neg a1]
    by_cases a2 : 0 < ((s.R 0).length : Int)
    · by_cases a3 : ((s.R 1).length : Int) = 0
      · exact .inr (.inr (.inl ⟨by omega, a2, a3, if_pos ⟨a2, .inl a3⟩⟩))
      · by_cases a4 : s.target < ((s.R 0).length : Int)
        · exact .inr (.inr (.inr (.inl ⟨by omega, a2, by omega, a4, if_pos ⟨a2, .inr (.inl a4)⟩⟩)))
        · cases g
          · refine .inr (.inr (.inr (.inr (.inl ⟨by omega, a2, by omega, by omega, rfl, if_neg ?_⟩))))
            rintro ⟨_, h | h | h⟩
            · exact a3 h
            · exact a4 h
            · cases h.1
          · by_cases a5 : ((s.R 0).length : Int) = s.target
            · exact .inr (.inr (.inr (.inr (.inr (.inl ⟨by omega, a2, by omega, a5, rfl, if_pos ⟨a2, .inr (.inr ⟨rfl, a5⟩)⟩⟩)))))
            · refine .inr (.inr (.inr (.inr (.inr (.inr ⟨by omega, a2, by omega, by omega, rfl, if_neg ?_⟩)))))
              rintro ⟨_, h | h | h⟩
              · exact a3 h
              · exact a4 h
              · exact a5 h.2
    · exact .inr (.inl ⟨by omega, by omega, if_neg fun h => a2 h.1⟩)
end Go.Proofs.Ytefjpljjdjecjaa
