/- A cache in memory; its size, forget, ghost. -/
import Derived.Test.YtefjpljjdjecjaaWc
namespace Go.Proofs.Ytefjpljjdjecjaa
open Go.RowKit

theorem RA.fr {M : Nat → Prop} {w w' : World} {cb : Nat} {R : Nat → List It} {m : Value} {room target : Int} (h : RA w cb R m room target) (hf : Fr M w w') (hc : ¬ M cb) (hx : ∀ x ∈ allI R, ¬ M x.b) : RA w' cb R m room target :=
  ⟨h.row.fr hf hc, fun r hr => (h.lk r hr).fr hf fun x hxr => hx x (mem_allI.2 ⟨r, hr, hxr⟩), h.nd, h.ne, h.len⟩
theorem upd_upd (R : Nat → List It) (r : Nat) (A B : List It) : upd (upd R r A) r B = upd R r B := by
  funext i; unfold upd; split <;> rfl
theorem upd_self (R : Nat → List It) (r : Nat) : upd R r (R r) = R := by
  funext i; unfold upd; split
  · rename_i h; rw [h]
  · rfl
theorem allI_ins {R : Nat → List It} {r : Nat} (hr : r < 4) (L1 : List It) (x : It) (L2 : List It) : (allI (upd R r (L1 ++ x :: L2))).Perm (x :: allI (upd R r (L1 ++ L2))) := by
  unfold allI
  match r, hr with
  | 0, _ =>
    show (L1 ++ x :: L2 ++ R 1 ++ R 2 ++ R 3).Perm (x :: (L1 ++ L2 ++ R 1 ++ R 2 ++ R 3))
    have := List.perm_middle (a := x) (l₁ := L1) (l₂ := L2 ++ R 1 ++ R 2 ++ R 3)
    simp only [List.append_assoc, List.cons_append] at this ⊢
    exact this
  | 1, _ =>
    show (R 0 ++ (L1 ++ x :: L2) ++ R 2 ++ R 3).Perm (x :: (R 0 ++ (L1 ++ L2) ++ R 2 ++ R 3))
    have := List.perm_middle (a := x) (l₁ := R 0 ++ L1) (l₂ := L2 ++ R 2 ++ R 3)
    simpa [List.append_assoc] using this
  | 2, _ =>
    show (R 0 ++ R 1 ++ (L1 ++ x :: L2) ++ R 3).Perm (x :: (R 0 ++ R 1 ++ (L1 ++ L2) ++ R 3))
    have := List.perm_middle (a := x) (l₁ := R 0 ++ R 1 ++ L1) (l₂ := L2 ++ R 3)
    simpa [List.append_assoc] using this
  | 3, _ =>
    show (R 0 ++ R 1 ++ R 2 ++ (L1 ++ x :: L2)).Perm (x :: (R 0 ++ R 1 ++ R 2 ++ (L1 ++ L2)))
    have := List.perm_middle (a := x) (l₁ := R 0 ++ R 1 ++ R 2 ++ L1) (l₂ := L2)
    simpa [List.append_assoc] using this
theorem allI_del {R : Nat → List It} {r : Nat} (hr : r < 4) {L1 : List It} {x : It} {L2 : List It} (hR : R r = L1 ++ x :: L2) : (allI R).Perm (x :: allI (upd R r (L1 ++ L2))) := by
  have := allI_ins (R := R) hr L1 x L2
  rwa [← hR, upd_self] at this
def fk (l : List It) (k : Int) : Option It := l.find? fun x => x.key == k
theorem fk_iff {l : List It} (hn : (l.map (·.key)).Nodup) (k : Int) (x : It) : fk l k = some x ↔ x ∈ l ∧ x.key = k := by
  induction l with
  | nil => simp [fk]
  | cons y l ih =>
    simp only [List.map_cons, List.nodup_cons, List.mem_map, not_exists, not_and] at hn
    unfold fk at *
    rw [List.find?_cons]
    by_cases hy : y.key = k
    · simp only [hy, beq_self_eq_true, List.mem_cons]
      constructor
      · intro e; cases e; exact ⟨.inl rfl, hy⟩
      · rintro ⟨rfl | hx, hk⟩
        · rfl
        · exact absurd (hk.trans hy.symm) (hn.1 x hx)
    · have : (y.key == k) = false := by simpa using hy
      rw [this, ih hn.2]
      simp only [List.mem_cons]
      constructor
      · rintro ⟨h1, h2⟩; exact ⟨.inr h1, h2⟩
      · rintro ⟨rfl | h1, h2⟩
        · exact absurd h2 hy
        · exact ⟨h1, h2⟩
theorem fk_perm {l l' : List It} (h : l.Perm l') (hn : (l.map (·.key)).Nodup) (k : Int) : fk l k = fk l' k := by
  apply Option.ext
  intro x
  rw [fk_iff hn, fk_iff ((h.map _).nodup_iff.1 hn), h.mem_iff]
theorem fk_cons (x : It) (l : List It) (k : Int) : fk (x :: l) k = if x.key = k then some x else fk l k := by
  unfold fk
  rw [List.find?_cons]
  by_cases h : x.key = k
  · simp [h]
  · have : (x.key == k) = false := by simpa using h
    rw [this, if_neg h]
theorem fk_none {l : List It} {k : Int} (h : ∀ x ∈ l, x.key ≠ k) : fk l k = none := by
  unfold fk
  rw [List.find?_eq_none]
  intro x hx
  simpa using h x hx
def mapOf (R : Nat → List It) (k : Int) : Option Value := (fk (allI R) k).map fun x => ptr (some x.b)

structure Cs where
  R : Nat → List It
  mb : Nat
  room : Int
  target : Int
def Own (cb : Nat) (s : Cs) (k : Nat) : Prop := k = cb ∨ k = s.mb ∨ ∃ x ∈ allI s.R, x.b = k
/-- A cache in memory. -/
structure CA (w : World) (cb : Nat) (s : Cs) : Prop where
  ra : RA w cb s.R (.map (some s.mb)) s.room s.target
  mp : MapAt w s.mb (mapOf s.R)
  nk : ((allI s.R).map (·.key)).Nodup
  mc : s.mb ≠ cb
  mi : ∀ x ∈ allI s.R, x.b ≠ s.mb
  dt : ∀ x ∈ allI s.R, ∀ d, x.d = some d → RowAt w d 30 x.v ∧ ¬ Own cb s d
  rm : 1 ≤ s.room ∧ s.room ≤ 1024
  tg : 0 ≤ s.target ∧ s.target ≤ s.room
/-- What is new is new memory. -/
def Fresh (cb : Nat) (s s' : Cs) (w : World) : Prop := ∀ k, Own cb s' k → Own cb s k ∨ w.heap.size ≤ k

theorem size_any (w : World) (cb : Nat) (R : Nat → List It) (m : Value) (room target : Int) (h : RA w cb R m room target) (r : Nat) (hr : r < 4) :
    Calls Try.prog 40 #[.pointer (some ⟨cb, 0, none⟩), .int .i64 r] w fun e w' => e = .returned (.int .i64 (R r).length) ∧ w = w' := by
  obtain ⟨_, _, k2⟩ := cells_at R m room target r hr
  have c2 := (h.row.cell (r * 3 + 2)).trans k2
  have r0 : (0 : Int) ≤ (r : Int) := by omega
  have r1 : (r : Int) < 4 := by omega
  clear k2 h
  go_enter Try.func40, Try.ntmps40
  go_wp2
  go_ret
  exact ⟨rfl, rfl⟩
theorem none_any (w : World) (cb : Nat) (s : Cs) (h : CA w cb s) : Calls Try.prog 29 #[.pointer (some ⟨cb, 0, none⟩)] w fun e w' => e = .returned (.bool false) ∧ w = w' := by
  have c1 : w.cell? ⟨cb, 13, none⟩ = some (.int .i64 s.room) := h.ra.row.cell 13
  have c2 : w.cell? ⟨cb, 12, none⟩ = some (.map (some s.mb)) := h.ra.row.cell 12
  obtain ⟨r1, r2⟩ := h.rm
  have hl : decide (s.room < 1) = false := by simp; omega
  have hq : ∀ (w : World) (r : Option Nat), (binOp .eql 61 (.map r) (.map none)).run Try.prog w = .ok (.bool r.isNone) w := fun w r => run_eql_map_nil w 61 3 62 r Try.underlying61
  clear h
  go_enter Try.func29, Try.ntmps29
  go_wp2
  go_ret
  exact ⟨rfl, rfl⟩
theorem none_nil (w : World) : Calls Try.prog 29 #[.pointer none] w fun e w' => e = .returned (.bool true) ∧ w = w' := by
  go_enter Try.func29, Try.ntmps29
  go_wp2
  go_ret
  exact ⟨rfl, rfl⟩

def setR (s : Cs) (R : Nat → List It) : Cs := { s with R := R }
def forgetF (s : Cs) (r : Nat) : Cs := setR s (upd s.R r (s.R r).tail)
theorem forgetF_nil {s : Cs} {r : Nat} (h : s.R r = []) : forgetF s r = s := by
  unfold forgetF setR
  rw [h, List.tail_nil, ← h, upd_self]
theorem own_sub {cb : Nat} {s : Cs} {R' : Nat → List It} (h : ∀ x ∈ allI R', ∃ y ∈ allI s.R, y.b = x.b) {k : Nat} (hk : Own cb (setR s R') k) : Own cb s k := by
  rcases hk with h1 | h1 | ⟨x, hx, e⟩
  · exact .inl h1
  · exact .inr (.inl h1)
  · obtain ⟨y, hy, e'⟩ := h x hx
    exact .inr (.inr ⟨y, hy, e'.trans e⟩)
def Goes (cb : Nat) (s s' : Cs) (w : World) (e : Ending) (w' : World) : Prop := e = .returned (.tuple #[]) ∧ CA w' cb s' ∧ Fr (Own cb s) w w' ∧ Fresh cb s s' w

set_option maxHeartbeats 2000000 in
theorem forget_any (w : World) (cb : Nat) (s : Cs) (h : CA w cb s) (r : Nat) (hr : r < 4) : Calls Try.prog 42 #[.pointer (some ⟨cb, 0, none⟩), .int .i64 r] w (Goes cb s (forgetF s r) w) := by
  obtain ⟨k0, _, _⟩ := cells_at s.R (.map (some s.mb)) s.room s.target r hr
  have c0 := (h.ra.row.cell (r * 3)).trans k0
  have r0 : (0 : Int) ≤ (r : Int) := by omega
  have r1 : (r : Int) < 4 := by omega
  clear k0
  cases hR : s.R r with
  | nil =>
    rw [hR] at c0
    simp only [nx, ptr] at c0
    rw [forgetF_nil hR]
    have H := Lib.hid h
    clear h hR
    go_enter Try.func42, Try.ntmps42
    go_wp2
    refine bodyPost_ret (results_none rfl _ _ _) rfl ?_
    exact ⟨rfl, H.out, Fr.refl _ _, fun k hk => .inl hk⟩
  | cons x L =>
    rw [hR] at c0
    simp only [nx, ptr] at c0
    have H := Lib.hid h
    have HR := Lib.hid hR
    clear h hR
    go_enter Try.func42, Try.ntmps42
    go_wp2_with fail
    refine (detach_any w cb s.R _ _ _ H.out.ra r hr [] x L HR.out).mono ?_
    rintro e w1 ⟨rfl, ra1, hX1, hf1⟩
    rw [List.nil_append] at ra1
    clear c0
    go_wp2_with fail
    have mp1 : MapAt w1 s.mb (mapOf s.R) := H.out.mp.fr hf1 (by
      rintro (e | ⟨y, hy, e⟩)
      · exact H.out.mc e
      · exact H.out.mi y (mem_allI.2 ⟨r, hr, hy⟩) e)
    have ra2 := ra1.fr (M := fun _ => False) (Fr.refl _ _).drew (fun h => h) (fun _ _ h => h)
    have hX2 := hX1.drew
    have mp2 : MapAt w1.drew s.mb (mapOf s.R) := mp1
    have hf2 := hf1.drew
    clear ra1 hX1 mp1 hf1
    refine wp_region_parts (by kernel_rfl) (by kernel_rfl) ?_
    generalize w1.drew = W at *
    apply regL_lq W.heap.size
    intro D hD hn
    have p12 := fun x : Bd W.heap.size W D => (ra2.row.next x.ok).cell 12
    have q0 := fun z : Bd W.heap.size W D => (hX2.next z.ok).cell 0
    have e12 : (cells (upd s.R r L) (.map (some s.mb)) s.room s.target)[12]? = some (.map (some s.mb)) := rfl
    simp only [e12] at p12
    simp [itCells] at q0
    repeat (apply wpLQ_pin rfl rfl; intro K hK; go_big_quiet_op; go_big_quiet_on; apply And.intro rfl)
    apply wpLQ_end (bar_of (by kernel_rfl))
    intro W1 hb _
    clear p12 q0 e12 hn hD
    replace ra2 := ra2.fr (M := fun _ => False) (Fr.of_below hb) (fun h => h) (fun _ _ h => h)
    replace mp2 := mp2.next hb
    replace hf2 := hf2.trans (Fr.of_below hb)
    clear hb hX2
    obtain ⟨W2, hrun, mp3, hf3, _⟩ := run_del (P := Try.prog) mp2 Try.underlying61 Try.underlying3 0 3 x.key
    apply regL_one (bar_of (by kernel_rfl)) rfl
    refine wp_del rfl rfl rfl rfl hrun ?_
    apply regL_nil
    simp only [Act.put]
    go_wp2
    go_end0
    have hx : x ∈ allI s.R := mem_allI.2 ⟨r, hr, by rw [HR.out]; exact List.mem_cons_self ..⟩
    have hperm := allI_del (R := s.R) hr (L1 := []) HR.out
    rw [List.nil_append] at hperm
    have hnk := (hperm.map (·.key)).nodup_iff.1 H.out.nk
    simp only [List.map_cons, List.nodup_cons, List.mem_map, not_exists, not_and] at hnk
    have hmem : ∀ y ∈ allI (upd s.R r L), y ∈ allI s.R := fun y hy => hperm.mem_iff.2 (List.mem_cons_of_mem _ hy)
    have hF : forgetF s r = setR s (upd s.R r L) := by unfold forgetF; rw [HR.out]; rfl
    have hmO : ∀ y ∈ allI (upd s.R r L), ∃ z ∈ allI s.R, z.b = y.b := fun y hy => ⟨y, hmem y hy, rfl⟩
    have hfo : Fr (Own cb s) w W2 := by
      refine (hf2.mono ?_).trans (hf3.mono ?_)
      · rintro k _ (e | ⟨y, hy, e⟩)
        · exact .inl e
        · exact .inr (.inr ⟨y, mem_allI.2 ⟨r, hr, hy⟩, e⟩)
      · rintro k _ rfl; exact .inr (.inl rfl)
    rw [hF]
    refine ⟨rfl, ⟨?_, ?_, hnk.2, H.out.mc, fun y hy => H.out.mi y (hmem y hy), ?_, H.out.rm, H.out.tg⟩, hfo, fun k hk => .inl (own_sub hmO hk)⟩
    · exact ra2.fr hf3 (Ne.symm H.out.mc) (fun y hy => H.out.mi y (hmem y hy))
    · refine mp3.ext fun k => ?_
      show _ = (fk (allI (upd s.R r L)) k).map _
      unfold mapOf
      rw [fk_perm hperm H.out.nk, fk_cons]
      by_cases hk : k = x.key
      · subst hk
        rw [if_pos rfl, fk_none fun y hy => hnk.1 y hy]; rfl
      · rw [if_neg hk, if_neg (Ne.symm hk)]
    · intro y hy d hd
      obtain ⟨h1, h2⟩ := H.out.dt y (hmem y hy) d hd
      exact ⟨h1.fr hfo h2, fun h => h2 (own_sub hmO h)⟩

def ghostF (s : Cs) (f g : Nat) : Cs := match s.R f with
  | [] => s
  | x :: L => setR s (upd (upd s.R f L) g (s.R g ++ [{ x with d := none }]))
/-- An item in another row, or with other data. -/
theorem fk_swap {l : List It} {x y : It} (hk : y.key = x.key) (hb : y.b = x.b) (k : Int) : (fk (y :: l) k).map (fun z => ptr (some z.b)) = (fk (x :: l) k).map fun z => ptr (some z.b) := by
  rw [fk_cons, fk_cons, hk]
  split
  · simp [hb]
  · rfl
set_option maxHeartbeats 2000000 in
theorem ghost_any (w : World) (cb : Nat) (s : Cs) (h : CA w cb s) (f g : Nat) (hf : f < 4) (hg : g < 4) (hfg : f ≠ g) (hlen : (s.R g).length < 100000) : Calls Try.prog 43 #[.pointer (some ⟨cb, 0, none⟩), .int .i64 f, .int .i64 g] w (Goes cb s (ghostF s f g) w) := by
  obtain ⟨k0, _, _⟩ := cells_at s.R (.map (some s.mb)) s.room s.target f hf
  have c0 := (h.ra.row.cell (f * 3)).trans k0
  have r0 : (0 : Int) ≤ (f : Int) := by omega
  have r1 : (f : Int) < 4 := by omega
  clear k0
  cases hR : s.R f with
  | nil =>
    rw [hR] at c0
    simp only [nx, ptr] at c0
    have hgF : ghostF s f g = s := by unfold ghostF; rw [hR]
    rw [hgF]
    have H := Lib.hid h
    clear h hR hgF
    go_enter Try.func43, Try.ntmps43
    go_wp2
    refine bodyPost_ret (results_none rfl _ _ _) rfl ?_
    exact ⟨rfl, H.out, Fr.refl _ _, fun k hk => .inl hk⟩
  | cons x L =>
    rw [hR] at c0
    simp only [nx, ptr] at c0
    have H := Lib.hid h
    have HR := Lib.hid hR
    clear h hR
    go_enter Try.func43, Try.ntmps43
    go_wp2_with fail
    refine (detach_any w cb s.R _ _ _ H.out.ra f hf [] x L HR.out).mono ?_
    rintro e w1 ⟨rfl, ra1, hX1, hf1⟩
    rw [List.nil_append] at ra1
    have hx : x ∈ allI s.R := mem_allI.2 ⟨f, hf, by rw [HR.out]; exact List.mem_cons_self ..⟩
    have hxc : x.b ≠ cb := H.out.ra.ne x hx
    have hperm := allI_del (R := s.R) hf (L1 := []) HR.out
    rw [List.nil_append] at hperm
    have hndp := (hperm.map (·.b)).nodup_iff.1 H.out.ra.nd
    simp only [List.map_cons, List.nodup_cons, List.mem_map, not_exists, not_and] at hndp
    have x2 := hX1.cell 2
    have g2 := hX1.free 2
    simp [itCells] at x2
    clear c0
    go_wp2_with fail
    clear x2 g2
    have hX2 := hX1.set 2 (.pointer none)
    have ra2 := ra1.fr (M := fun k => k = x.b) (w' := w1.setCell ⟨x.b, 2, none⟩ (.pointer none)) ((Fr.refl (fun k => k = x.b) w1).setCell (M := fun k => k = x.b) (b := x.b) (i := 2) rfl (.pointer none)) (Ne.symm hxc) (fun y hy => hndp.1 y hy)
    have hf2 := hf1.setCell (b := x.b) (i := 2) (.inr ⟨x, by rw [HR.out]; exact List.mem_cons_self .., rfl⟩) (.pointer none)
    generalize w1.setCell ⟨x.b, 2, none⟩ (.pointer none) = w2 at *
    clear ra1 hX1 hf1
    simp only [itCells, List.set_cons_succ, List.set_cons_zero] at hX2
    have hug : upd s.R f L g = s.R g := upd_ne _ _ (Ne.symm hfg)
    refine (attach_any w2 cb (upd s.R f L) _ _ _ ra2 g hg { x with d := none } _ _ _ hX2 hxc (fun y hy => hndp.1 y hy) (by rw [hug]; exact hlen)).mono ?_
    rintro e w3 ⟨rfl, ra3, hf3⟩
    rw [hug] at ra3 hf3
    go_wp2
    go_end0
    have hF : ghostF s f g = setR s (upd (upd s.R f L) g (s.R g ++ [{ x with d := none }])) := by unfold ghostF; rw [HR.out]
    have hp2 : (allI (upd (upd s.R f L) g (s.R g ++ [{ x with d := none }]))).Perm ({ x with d := none } :: allI (upd s.R f L)) := by
      have := allI_ins (R := upd s.R f L) hg (s.R g) { x with d := none } []
      rw [List.append_nil, ← hug, upd_self, hug] at this
      exact this
    have hmem : ∀ y ∈ allI (upd (upd s.R f L) g (s.R g ++ [{ x with d := none }])), y = { x with d := none } ∨ y ∈ allI s.R := fun y hy => by
      rcases List.mem_cons.1 (hp2.mem_iff.1 hy) with rfl | hy
      · exact .inl rfl
      · exact .inr (hperm.mem_iff.2 (List.mem_cons_of_mem _ hy))
    have hmO : ∀ y ∈ allI (upd (upd s.R f L) g (s.R g ++ [{ x with d := none }])), ∃ z ∈ allI s.R, z.b = y.b := fun y hy => by
      rcases hmem y hy with rfl | h
      · exact ⟨x, hx, rfl⟩
      · exact ⟨y, h, rfl⟩
    have hfo : Fr (Own cb s) w w3 := by
      refine (hf2.mono ?_).trans (hf3.mono ?_)
      · rintro k _ (e | ⟨y, hy, e⟩)
        · exact .inl e
        · exact .inr (.inr ⟨y, mem_allI.2 ⟨f, hf, hy⟩, e⟩)
      · rintro k _ (e | ⟨y, hy, e⟩)
        · exact .inl e
        · rcases List.mem_cons.1 hy with rfl | hy
          · exact .inr (.inr ⟨x, hx, e⟩)
          · exact .inr (.inr ⟨y, mem_allI.2 ⟨g, hg, hy⟩, e⟩)
    rw [hF]
    refine ⟨rfl, ⟨ra3, ?_, ?_, H.out.mc, fun y hy => ?_, ?_, H.out.rm, H.out.tg⟩, hfo, fun k hk => .inl (own_sub hmO hk)⟩
    · have hmm : MapAt w3 s.mb (mapOf s.R) := by
        refine (H.out.mp.fr hf2 ?_).fr hf3 ?_
        · rintro (e | ⟨y, hy, e⟩)
          · exact H.out.mc e
          · exact H.out.mi y (mem_allI.2 ⟨f, hf, hy⟩) e
        · rintro (e | ⟨y, hy, e⟩)
          · exact H.out.mc e
          · rcases List.mem_cons.1 hy with rfl | hy
            · exact H.out.mi x hx e
            · exact H.out.mi y (mem_allI.2 ⟨g, hg, hy⟩) e
      refine hmm.ext fun k => ?_
      have hnk2 : ((allI (upd (upd s.R f L) g (s.R g ++ [{ x with d := none }]))).map (·.key)).Nodup := by
        rw [(hp2.map (·.key)).nodup_iff]
        exact (hperm.map (·.key)).nodup_iff.1 H.out.nk
      show (fk (allI s.R) k).map _ = (fk (allI (upd (upd s.R f L) g (s.R g ++ [{ x with d := none }]))) k).map _
      rw [fk_perm hp2 hnk2, fk_perm hperm H.out.nk]
      exact (fk_swap (x := x) (y := { x with d := none }) rfl rfl k).symm
    · show ((allI (upd (upd s.R f L) g (s.R g ++ [{ x with d := none }]))).map (·.key)).Nodup
      rw [(hp2.map (·.key)).nodup_iff]
      exact (hperm.map (·.key)).nodup_iff.1 H.out.nk
    · rcases hmem y hy with rfl | h
      · exact H.out.mi x hx
      · exact H.out.mi y h
    · intro y hy d hd
      rcases hmem y hy with rfl | h
      · cases hd
      · obtain ⟨h1, h2⟩ := H.out.dt y h d hd
        exact ⟨h1.fr hfo h2, fun h => h2 (own_sub hmO h)⟩
end Go.Proofs.Ytefjpljjdjecjaa
