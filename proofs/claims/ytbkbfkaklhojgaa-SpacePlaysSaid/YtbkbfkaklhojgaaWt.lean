/- A space by the program and one by the document, side by side. -/
import Derived.Test.YtbkbfkaklhojgaaWs
import Derived.Deep.RegionHeld3
namespace Go.Proofs.Ytbkbfkaklhojgaa
open Go.RowKit Go.Shelf
structure Bo (W : World) (b N q g last r : Nat) (f : Nat → Nat) : Prop where
  si : SI W b N last f
  xi : XI W q g N r f
  n0 : 64 ≤ N
  n1 : N ≤ 8192
  dq : b ≠ q
  dg : b ≠ g
  ll : last < N
  lr : r < N
  la : last = r ∨ (last = 0 ∧ r = 1)
  f0 : f 0 = 1
  f1 : f 1 = 1
  f4 : ∀ i, f i < 4
abbrev BQ (b q g : Nat) : Nat → Prop := fun k => k = b ∨ k = q ∨ k = g
section
variable {W W1 W2 : World} {b N q g last r last' r' : Nat} {f f' : Nat → Nat}
theorem Bo.next (h : Bo W b N q g last r f) (hb : Below W.heap.size W W1) : Bo W1 b N q g last r f :=
  ⟨h.si.next hb, h.xi.next hb, h.n0, h.n1, h.dq, h.dg, h.ll, h.lr, h.la, h.f0, h.f1, h.f4⟩
theorem Bo.fr {M : Nat → Prop} (h : Bo W b N q g last r f) (hf : Fr M W W1) (hb : ¬ M b) (hq : ¬ M q) (hg : ¬ M g) : Bo W1 b N q g last r f :=
  ⟨h.si.fr hf hb, h.xi.fr hf hq hg, h.n0, h.n1, h.dq, h.dg, h.ll, h.lr, h.la, h.f0, h.f1, h.f4⟩
theorem Bo.go (h : Bo W b N q g last r f) (hs : SI W1 b N last' f') (hf : Fr (· = b) W W1) (hx : XI W2 q g N r' f') (hf2 : Fr (QG q g) W1 W2)
    (ll : last' < N) (lr : r' < N) (la : last' = r' ∨ (last' = 0 ∧ r' = 1)) (f0 : f' 0 = 1) (f1 : f' 1 = 1) (f4 : ∀ i, f' i < 4) : Bo W2 b N q g last' r' f' ∧ Fr (BQ b q g) W W2 :=
  ⟨⟨hs.fr hf2 (fun e => by rcases e with e | e; exact h.dq e; exact h.dg e), hx, h.n0, h.n1, h.dq, h.dg, ll, lr, la, f0, f1, f4⟩,
    (hf.mono (fun _ _ e => .inl e)).step hf2 (fun _ _ e => .inr e)⟩
theorem Bo.xi1 (h : Bo W b N q g last r f) (hf : Fr (· = b) W W1) : XI W1 q g N r f := h.xi.fr hf (fun e => h.dq e.symm) (fun e => h.dg e.symm)
end
theorem takeP_one {N : Nat} {f : Nat → Nat} {o : Option Nat} (h : TakeP N 0 f o) : TakeP N 1 f o := by
  cases o with
  | none => exact h
  | some x =>
    obtain ⟨h1, h2, h3, h4⟩ := h
    refine ⟨h1, h2, h3, ?_⟩
    rcases h4 with ⟨_, h5⟩ | ⟨h5, _⟩
    · exact .inl ⟨by omega, fun i _ h2 h3 => h5 i (by omega) h2 h3⟩
    · omega
theorem take_same {N last r : Nat} {f : Nat → Nat} {o o' : Option Nat} (la : last = r ∨ (last = 0 ∧ r = 1)) (h : TakeP N last f o) (h' : TakeP N r f o') : o = o' := by
  rcases la with rfl | ⟨rfl, rfl⟩
  · exact h.det h'
  · exact (takeP_one h).det h'
theorem upd_keep {f : Nat → Nat} {x t : Nat} (hx : 2 ≤ x) (ht : t < 4) (f0 : f 0 = 1) (f1 : f 1 = 1) (f4 : ∀ i, f i < 4) : upd f x t 0 = 1 ∧ upd f x t 1 = 1 ∧ ∀ i, upd f x t i < 4 := by
  unfold upd
  refine ⟨by rw [if_neg (by omega)]; exact f0, by rw [if_neg (by omega)]; exact f1, fun i => ?_⟩
  split
  · exact ht
  · exact f4 i
theorem rF_keep {N last : Nat} {f : Nat → Nat} {o : Option Nat} (h : TakeP N last f o) (f0 : f 0 = 1) (f1 : f 1 = 1) (f4 : ∀ i, f i < 4) : rF f o 0 = 1 ∧ rF f o 1 = 1 ∧ ∀ i, rF f o i < 4 := by
  cases o with
  | none => exact ⟨f0, f1, f4⟩
  | some x => exact upd_keep h.1 (by omega) f0 f1 f4
theorem rL_lt {N last l : Nat} {f : Nat → Nat} {o : Option Nat} (h : TakeP N last f o) (hl : l < N) : rL l o < N := by
  cases o with
  | none => exact hl
  | some x => exact h.2.1
theorem rL_same {last r : Nat} (o : Option Nat) (la : last = r ∨ (last = 0 ∧ r = 1)) : rL last o = rL r o ∨ (rL last o = 0 ∧ rL r o = 1) := by
  cases o with
  | none => exact la
  | some x => exact .inl rfl
theorem markF_keep {N : Nat} {f : Nat → Nat} (n : Int) (f0 : f 0 = 1) (f1 : f 1 = 1) (f4 : ∀ i, f i < 4) : markF N f n 0 = 1 ∧ markF N f n 1 = 1 ∧ ∀ i, markF N f n i < 4 := by
  unfold markF
  split
  · exact ⟨f0, f1, f4⟩
  · split
    · exact upd_keep (by omega) (by omega) f0 f1 f4
    · exact ⟨f0, f1, f4⟩
theorem giveF_keep {N : Nat} {f : Nat → Nat} (n : Int) (f0 : f 0 = 1) (f1 : f 1 = 1) (f4 : ∀ i, f i < 4) : giveF N f n 0 = 1 ∧ giveF N f n 1 = 1 ∧ ∀ i, giveF N f n i < 4 := by
  unfold giveF
  split
  · exact ⟨f0, f1, f4⟩
  · split
    · exact upd_keep (by omega) (by omega) f0 f1 f4
    · split
      · exact upd_keep (by omega) (by omega) f0 f1 f4
      · exact ⟨f0, f1, f4⟩
theorem turnF_keep {N : Nat} {f : Nat → Nat} (a t : Nat) (ht : t < 4) (f0 : f 0 = 1) (f1 : f 1 = 1) (f4 : ∀ i, f i < 4) : turnF N f a t 0 = 1 ∧ turnF N f a t 1 = 1 ∧ ∀ i, turnF N f a t i < 4 := by
  unfold turnF
  refine ⟨by rw [if_neg (by omega)]; exact f0, by rw [if_neg (by omega)]; exact f1, fun i => ?_⟩
  split
  · exact ht
  · exact f4 i
theorem stF_keep {N : Nat} {f : Nat → Nat} (f0 : f 0 = 1) (f1 : f 1 = 1) (f4 : ∀ i, f i < 4) : stF N f 0 = 1 ∧ stF N f 1 = 1 ∧ ∀ i, stF N f i < 4 := by
  obtain ⟨a, b, c⟩ := turnF_keep (N := N) 3 0 (by omega) f0 f1 f4
  exact turnF_keep (N := N) 2 1 (by omega) a b c
theorem bkF_keep {N : Nat} {f : Nat → Nat} (f0 : f 0 = 1) (f1 : f 1 = 1) (f4 : ∀ i, f i < 4) : bkF N f 0 = 1 ∧ bkF N f 1 = 1 ∧ ∀ i, bkF N f i < 4 := by
  obtain ⟨a, b, c⟩ := turnF_keep (N := N) 3 1 (by omega) f0 f1 f4
  exact turnF_keep (N := N) 2 0 (by omega) a b c
def BoS (w : World) (b N q g : Nat) (W : World) : Prop := ∃ last r f, Bo W b N q g last r f ∧ Fr (BQ b q g) w W
def DoI (w : World) (b N q g x kd : Nat) (z : Int) (i : Value) (W : World) : Prop := ∃ j : Nat, j ≤ 30 ∧ i = .int .i64 j ∧ BoS w b N q g W ∧ RowAt W x 31 [.int .u8 kd, .int .i64 z]
theorem rE_eq {o : Option Nat} : (rE o != rE o) = false := by simp
set_option maxHeartbeats 2000000 in
theorem do_any (w : World) (b N q g last r : Nat) (f : Nat → Nat) (h : Bo w b N q g last r f) (kd : Nat) (z : Int) :
    Calls Try.prog 19 #[.agg #[.int .u8 kd, .int .i64 z], .pointer (some ⟨b, 0, none⟩), .pointer (some ⟨q, 0, none⟩)] w fun e w' => e = .returned (.bool true) ∧ BoS w b N q g w' := by
  have hal : Below w.heap.size w (w.alloc (.cells #[.int .u8 kd, .int .i64 z] 31)) := (Below.refl _ _).alloc (Nat.le_refl _) _
  have HB := Lib.hid (h.next hal)
  have HF : Hid (Fr (BQ b q g) w (w.alloc (.cells #[.int .u8 kd, .int .i64 z] 31))) := Lib.hid (Fr.of_below hal)
  have HR := Lib.hid (RowAt.new w 31 [.int .u8 kd, .int .i64 z])
  have d1 := HR.out.cell 0
  have d2 := HR.out.cell 1
  have HNE : Hid (w.heap.size ≠ b ∧ w.heap.size ≠ q ∧ w.heap.size ≠ g) := Lib.hid (by
    have h1 := h.si.lt
    have h2 := h.xi.ltq
    have h3 := h.xi.ltg
    omega)
  clear h hal
  simp only [List.getElem?_cons_zero, List.getElem?_cons_succ] at d1 d2
  by_cases e0 : kd = 0
  · have e0' : ((kd : Int) == 0) = true := by simp; omega
    clear e0
    go_enter Try.func19, Try.ntmps19
    go_wp2_with fail
    generalize w.alloc (.cells #[.int .u8 kd, .int .i64 z] 31) = w1 at *
    obtain ⟨x, hx⟩ : ∃ x, x = w.heap.size := ⟨_, rfl⟩
    rw [← hx] at HR HNE d1 d2 ⊢
    clear hx d1 d2
    go_loopw [7] (fun i wr => DoI w b N q g x kd z i wr) (fun i _ => 31 - (intOf i).toNat)
    case atStart => exact ⟨0, by omega, rfl, ⟨_, _, _, HB.out, HF.out⟩, HR.out⟩
    case round =>
      obtain ⟨j, hj, rfl, ⟨last, r, f, hb, hf⟩, hr⟩ := hrel
      clear HB HF HR
      have HB := Lib.hid hb
      have HF := Lib.hid hf
      have HR := Lib.hid hr
      have d2 := hr.cell 1
      simp only [List.getElem?_cons_zero, List.getElem?_cons_succ] at d2
      clear hb hf hr
      by_cases hj1 : (j : Int) < z
      · by_cases hj2 : (j : Int) < 30
        · go_wp2_with fail
          refine (take_any wr b N last f HB.out.si (by have := HB.out.n0; omega) HB.out.n1 HB.out.ll).mono ?_
          rintro e w2 ⟨o, rfl, hp, hs, hf⟩
          have HX := Lib.hid (HB.out.xi1 hf)
          have HP := Lib.hid hp
          have HS := Lib.hid hs
          have HF2 := Lib.hid hf
          clear hp hs hf
          go_wp2_with fail
          refine (rtake_any w2 q g N r f HX.out (by have := HB.out.n0; omega) HB.out.n1 HB.out.lr HB.out.f0 HB.out.f1).mono ?_
          rintro e w3 ⟨o', rfl, hp', hx', hf'⟩
          obtain rfl := take_same HB.out.la HP.out hp'
          obtain ⟨k0, k1, k4⟩ := rF_keep HP.out HB.out.f0 HB.out.f1 HB.out.f4
          obtain ⟨b1, b2⟩ := HB.out.go HS.out HF2.out hx' hf' (rL_lt HP.out HB.out.ll) (rL_lt HP.out HB.out.lr) (rL_same o HB.out.la) k0 k1 k4
          have HR3 : Hid (RowAt w3 x 31 [.int .u8 kd, .int .i64 z]) := Lib.hid (HR.out.fr b2 (by have := HNE.out; omega))
          have HB3 : Hid (BoS w b N q g w3) := Lib.hid ⟨_, _, _, b1, HF.out.trans b2⟩
          have n1 : (rN o != rN o) = false := by simp
          have n2 : (rE o != rE o) = false := by simp
          clear hp' hx' hf' k0 k1 k4 b1 b2 HX HP HS HF2 HB HR HF
          generalize rN o = A at *
          generalize rE o = E at *
          clear d2
          go_wp2_with fail
          all_goals go_roundw
          all_goals first
            | (show _ < _; simp [intOf]; omega)
            | exact ⟨j + 1, by omega, by go_num, HB3.out, HR3.out⟩
        · go_wp2_with fail
          all_goals refine bodyPost_ret (by simp [results, Try.results19, go_sem]; rfl) rfl ?_
          all_goals exact ⟨rfl, _, _, _, HB.out, HF.out⟩
      · go_wp2_with fail
        all_goals refine bodyPost_ret (by simp [results, Try.results19, go_sem]; rfl) rfl ?_
        all_goals exact ⟨rfl, _, _, _, HB.out, HF.out⟩
  · have e0' : ((kd : Int) == 0) = false := by simp; omega
    by_cases e1 : kd = 1
    · have e1' : ((kd : Int) == 1) = true := by simp; omega
      clear e1 e0
      go_enter Try.func19, Try.ntmps19
      go_wp2_with fail
      generalize w.alloc (.cells #[.int .u8 kd, .int .i64 z] 31) = w1 at *
      obtain ⟨x, hx⟩ : ∃ x, x = w.heap.size := ⟨_, rfl⟩
      rw [← hx] at HR HNE d1 d2 ⊢
      clear hx d1
      have HBd := Lib.hid (HB.out.next ((Below.refl _ _).drew))
      have HRd := Lib.hid (HR.out.next ((Below.refl _ _).drew))
      go_region_held3 (fun w' => w'.cell? ⟨x, 1, none⟩ = some (.int .i64 z))
        ((first | go_keep | exact (HRd.out.fr hf (fun h => HNE.out.1 h)).cell 1 | exact ((HRd.out.fr hf (fun h => HNE.out.1 h)).fr hf2 (fun h => by have := HNE.out; omega)).cell 1))
        ((first
          | (go_at_call 9; refine (give_any _ b N last f HBd.out.si HBd.out.n1 z).mono ?_; rintro e w2 ⟨rfl, hs, hf⟩)
          | (go_at_call 27; refine (rgive_any _ q g N r f (HBd.out.xi1 hf) HBd.out.f4 z).mono ?_; rintro e w3 ⟨rfl, hx2, hf2⟩)))
      obtain ⟨k0, k1, k4⟩ := giveF_keep (N := N) z HBd.out.f0 HBd.out.f1 HBd.out.f4
      obtain ⟨b1, b2⟩ := HBd.out.go hs hf hx2 hf2 HBd.out.ll HBd.out.lr HBd.out.la k0 k1 k4
      have HP : Hid (BoS w b N q g w3) := Lib.hid ⟨_, _, _, b1, (HF.out.drew).trans b2⟩
      clear hs hf hx2 hf2 k0 k1 k4 b1 b2
      go_wp2_with fail
      all_goals refine bodyPost_ret (by simp [results, Try.results19, go_sem]; rfl) rfl ?_
      all_goals exact ⟨rfl, HP.out⟩
    · have e1' : ((kd : Int) == 1) = false := by simp; omega
      by_cases e2 : kd = 2
      · have e2' : ((kd : Int) == 2) = true := by simp; omega
        clear e2 e1 e0
        go_enter Try.func19, Try.ntmps19
        go_wp2_with fail
        generalize w.alloc (.cells #[.int .u8 kd, .int .i64 z] 31) = w1 at *
        obtain ⟨x, hx⟩ : ∃ x, x = w.heap.size := ⟨_, rfl⟩
        rw [← hx] at HR HNE d1 d2 ⊢
        clear hx d1
        have HBd := Lib.hid (HB.out.next ((Below.refl _ _).drew))
        have HRd := Lib.hid (HR.out.next ((Below.refl _ _).drew))
        go_region_held3 (fun w' => w'.cell? ⟨x, 1, none⟩ = some (.int .i64 z))
          ((first | go_keep | exact (HRd.out.fr hf (fun h => HNE.out.1 h)).cell 1 | exact ((HRd.out.fr hf (fun h => HNE.out.1 h)).fr hf2 (fun h => by have := HNE.out; omega)).cell 1))
          ((first
            | (go_at_call 10; refine (mark_any _ b N last f HBd.out.si HBd.out.n1 z).mono ?_; rintro e w2 ⟨rfl, hs, hf⟩)
            | (go_at_call 28; refine (rmark_any _ q g N r f (HBd.out.xi1 hf) z).mono ?_; rintro e w3 ⟨rfl, hx2, hf2⟩)))
        obtain ⟨k0, k1, k4⟩ := markF_keep (N := N) z HBd.out.f0 HBd.out.f1 HBd.out.f4
        obtain ⟨b1, b2⟩ := HBd.out.go hs hf hx2 hf2 HBd.out.ll HBd.out.lr HBd.out.la k0 k1 k4
        have HP : Hid (BoS w b N q g w3) := Lib.hid ⟨_, _, _, b1, (HF.out.drew).trans b2⟩
        clear hs hf hx2 hf2 k0 k1 k4 b1 b2
        go_wp2_with fail
        all_goals refine bodyPost_ret (by simp [results, Try.results19, go_sem]; rfl) rfl ?_
        all_goals exact ⟨rfl, HP.out⟩
      · have e2' : ((kd : Int) == 2) = false := by simp; omega
        by_cases e3 : kd = 3
        · have e3' : ((kd : Int) == 3) = true := by simp; omega
          clear e3 e2 e1 e0
          go_enter Try.func19, Try.ntmps19
          go_wp2_with fail
          generalize w.alloc (.cells #[.int .u8 kd, .int .i64 z] 31) = w1 at *
          refine (settle_any w1 b N last f HB.out.si (by have := HB.out.n0; omega) HB.out.n1).mono ?_
          rintro e w2 ⟨rfl, hs, hf⟩
          have HS := Lib.hid hs
          have HF2 := Lib.hid hf
          clear hs hf d1 d2
          go_wp2_with fail
          refine (rsettle_any w2 q g N r f (HB.out.xi1 HF2.out) HB.out.f4 HB.out.n1 HB.out.f0 HB.out.f1).mono ?_
          rintro e w3 ⟨rfl, hx2, hf2⟩
          obtain ⟨k0, k1, k4⟩ := stF_keep (N := N) HB.out.f0 HB.out.f1 HB.out.f4
          obtain ⟨b1, b2⟩ := HB.out.go HS.out HF2.out hx2 hf2 HB.out.ll HB.out.lr HB.out.la k0 k1 k4
          have HP : Hid (BoS w b N q g w3) := Lib.hid ⟨_, _, _, b1, HF.out.trans b2⟩
          clear hx2 hf2 k0 k1 k4 b1 b2
          go_wp2_with fail
          all_goals refine bodyPost_ret (by simp [results, Try.results19, go_sem]; rfl) rfl ?_
          all_goals exact ⟨rfl, HP.out⟩
        · have e3' : ((kd : Int) == 3) = false := by simp; omega
          clear e3 e2 e1 e0
          go_enter Try.func19, Try.ntmps19
          go_wp2_with fail
          generalize w.alloc (.cells #[.int .u8 kd, .int .i64 z] 31) = w1 at *
          refine (back_any w1 b N last f HB.out.si (by have := HB.out.n0; omega) HB.out.n1).mono ?_
          rintro e w2 ⟨rfl, hs, hf⟩
          have HS := Lib.hid hs
          have HF2 := Lib.hid hf
          clear hs hf d1 d2
          go_wp2_with fail
          refine (rback_any w2 q g N r f (HB.out.xi1 HF2.out) HB.out.f4 HB.out.n1 HB.out.f0 HB.out.f1).mono ?_
          rintro e w3 ⟨rfl, hx2, hf2⟩
          obtain ⟨k0, k1, k4⟩ := bkF_keep (N := N) HB.out.f0 HB.out.f1 HB.out.f4
          obtain ⟨b1, b2⟩ := HB.out.go HS.out HF2.out hx2 hf2 HB.out.ll HB.out.lr HB.out.la k0 k1 k4
          have HP : Hid (BoS w b N q g w3) := Lib.hid ⟨_, _, _, b1, HF.out.trans b2⟩
          clear hx2 hf2 k0 k1 k4 b1 b2
          go_wp2_with fail
          all_goals refine bodyPost_ret (by simp [results, Try.results19, go_sem]; rfl) rfl ?_
          all_goals exact ⟨rfl, HP.out⟩
end Go.Proofs.Ytbkbfkaklhojgaa
