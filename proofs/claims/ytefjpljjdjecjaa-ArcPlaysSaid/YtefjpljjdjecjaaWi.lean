/- Put, Drop, Target. -/
import Derived.Test.YtefjpljjdjecjaaWh
namespace Go.Proofs.Ytefjpljjdjecjaa
open Go.RowKit
theorem have_some (w : World) (cb : Nat) (s : Cs) (h : CA w cb s) (hs : Small s) (key : Int) (x : It) (r : Nat) (hr : r < 4) (hx : x ∈ s.R r) (hk : x.key = key) (d : Nat) (v : List Value) (hv : RowAt w d 30 v) (hdo : ¬ Own cb s d) :
    Calls Try.prog 30 #[.pointer (some ⟨cb, 0, none⟩), .int .i64 key, .pointer (some ⟨d, 0, none⟩)] w (Goes cb s (moveF (havePre s r) { x with d := some d, v := v }) w) := by
  have n2 := h.ra.len 2 (by decide)
  have n3 := h.ra.len 3 (by decide)
  obtain ⟨r1, r2⟩ := h.rm
  obtain ⟨t1, t2⟩ := h.tg
  refine have_go w cb s h hs key x r hr hx hk d v hv hdo _ _ _ _ (Lib.hid rfl) (Lib.hid rfl) rfl rfl (by omega) (by omega) (by omega) (by omega) r1 r2 t1 t2 ?_
  have hl : 0 < (s.R r).length := List.length_pos_of_mem hx
  match r, hr with
  | 0, _ => exact .inl (by decide)
  | 1, _ => exact .inl (by decide)
  | 2, _ => exact .inr (.inl ⟨rfl, by omega⟩)
  | 3, _ => exact .inr (.inr ⟨rfl, by omega⟩)
/-- How a cache stands behind a Put. -/
def PutR (s : Cs) (key : Int) (v : List Value) (s' : Cs) : Prop :=
  (fk (allI s.R) key = none ∧ ∃ xb d, s' = putNew (meetPre s) ⟨xb, key, some d, v⟩) ∨ ∃ x r d, r < 4 ∧ x ∈ s.R r ∧ x.key = key ∧ s' = moveF (havePre s r) { x with d := some d, v := v }
def GoesV (cb : Nat) (s s' : Cs) (w w' : World) : Prop := CA w' cb s' ∧ Fr (Own cb s) w w' ∧ Fresh cb s s' w
theorem Goes.v {cb : Nat} {s s' : Cs} {w : World} {e : Ending} {w' : World} (h : Goes cb s s' w e w') : GoesV cb s s' w w' := h.2
theorem GoesV.refl {cb : Nat} {s : Cs} {w : World} (h : CA w cb s) : GoesV cb s s w w := ⟨h, Fr.refl _ _, fun _ h => .inl h⟩
theorem GoesV.drop {cb : Nat} {s s' : Cs} {w w0 w' : World} (h : GoesV cb s s' w w') (hb : Below w0.heap.size w0 w) : GoesV cb s s' w0 w' :=
  ⟨h.1, (Fr.of_below hb).trans h.2.1, fun k hk => (h.2.2 k hk).imp id (Nat.le_trans hb.size)⟩
theorem GoesV.trans {cb : Nat} {s s1 s2 : Cs} {w w1 w2 : World} (h1 : GoesV cb s s1 w w1) (h2 : GoesV cb s1 s2 w1 w2) : GoesV cb s s2 w w2 :=
  (Goes.trans (e1 := .returned (.tuple #[])) (e2 := .returned (.tuple #[])) ⟨rfl, h1⟩ ⟨rfl, h2⟩).2
theorem GoesV.next {cb : Nat} {s s1 : Cs} {w w1 w2 : World} (h1 : GoesV cb s s1 w w1) (hb : Below w1.heap.size w1 w2) : GoesV cb s s1 w w2 :=
  h1.trans ((GoesV.refl (h1.1.nextb hb)).drop hb)
theorem have_any (w : World) (cb : Nat) (s : Cs) (h : CA w cb s) (hs : Small s) (key : Int) (d : Nat) (v : List Value) (hv : RowAt w d 30 v) (hdo : ¬ Own cb s d) :
    Calls Try.prog 30 #[.pointer (some ⟨cb, 0, none⟩), .int .i64 key, .pointer (some ⟨d, 0, none⟩)] w fun e w' => e = .returned (.tuple #[]) ∧ ∃ s', GoesV cb s s' w w' ∧ PutR s key v s' := by
  cases hk : fk (allI s.R) key with
  | none =>
    refine (have_none w cb s h hs key hk d v hv hdo).mono ?_
    rintro e w' ⟨xb, _, hg⟩
    exact ⟨hg.1, _, hg.v, .inl ⟨hk, xb, d, rfl⟩⟩
  | some x =>
    obtain ⟨hx, hxk⟩ := (fk_iff h.nk key x).1 hk
    obtain ⟨r, hr, hx⟩ := mem_allI.1 hx
    refine (have_some w cb s h hs key x r hr hx hxk d v hv hdo).mono ?_
    rintro e w' hg
    exact ⟨hg.1, _, hg.v, .inr ⟨x, r, d, hr, hx, hxk, rfl⟩⟩
set_option maxHeartbeats 1000000 in
theorem put_any (w : World) (cb : Nat) (s : Cs) (h : CA w cb s) (hs : Small s) (key : Int) (v : List Value) :
    Calls Try.prog 11 #[.pointer (some ⟨cb, 0, none⟩), .int .i64 key, .agg v.toArray] w fun e w' => e = .returned (.int .i64 0) ∧ ∃ s', GoesV cb s s' w w' ∧ PutR s key v s' := by
  have hal := (Below.refl w.heap.size w).alloc (Nat.le_refl _) (.cells v.toArray 30)
  have hd : RowAt (w.alloc (.cells v.toArray 30)) w.heap.size 30 v := RowAt.new w 30 v
  have hdo : ¬ Own cb s w.heap.size := fun hh => Nat.lt_irrefl _ (h.lt hh)
  have HN := Lib.hid (none_any _ cb s (h.nextb hal))
  have HH := Lib.hid (have_any _ cb s (h.nextb hal) hs key w.heap.size v hd hdo)
  have HA := Lib.hid hal
  clear h hs hal hd hdo
  go_enter Try.func11, Try.ntmps11
  go_wp2_with fail
  refine HN.out.mono ?_
  rintro e w1 ⟨rfl, rfl⟩
  go_wp2_with fail
  refine HH.out.mono ?_
  rintro e w1 ⟨rfl, s', hg, hp⟩
  have HG := Lib.hid hg
  have HP := Lib.hid hp
  clear hg hp
  go_wp2
  go_ret
  exact ⟨rfl, s', HG.out.drop HA.out, HP.out⟩
theorem target_any (w : World) (cb : Nat) (s : Cs) (h : CA w cb s) : Calls Try.prog 14 #[.pointer (some ⟨cb, 0, none⟩)] w fun e w' => e = .returned (.int .i64 s.target) ∧ w = w' := by
  have c14 : w.cell? ⟨cb, 14, none⟩ = some (.int .i64 s.target) := h.ra.row.cell 14
  have HN := Lib.hid (none_any _ cb s h)
  clear h
  go_enter Try.func14, Try.ntmps14
  go_wp2_with fail
  refine HN.out.mono ?_
  rintro e w1 ⟨rfl, rfl⟩
  go_wp2
  go_ret
  exact ⟨rfl, rfl⟩
def dropF (s : Cs) (key : Int) : Cs := setR s (rmK s.R key)
theorem drop_none (w : World) (cb : Nat) (s : Cs) (h : CA w cb s) (key : Int) (hk : fk (allI s.R) key = none) :
    Calls Try.prog 16 #[.pointer (some ⟨cb, 0, none⟩), .int .i64 key] w fun e w' => e = .returned (.int .i64 5) ∧ w = w' := by
  have p12 : w.cell? ⟨cb, 12, none⟩ = some (.map (some s.mb)) := h.ra.row.cell 12
  have hr := run_look (P := Try.prog) h.mp Try.underlying61 Try.underlying3 (.pointer none) (zero62 w) key
  have hm : mapOf s.R key = none := by unfold mapOf; rw [hk]; rfl
  rw [hm] at hr
  have HR := Lib.hid hr
  have HN := Lib.hid (none_any _ cb s h)
  clear h hr hm hk
  go_enter Try.func16, Try.ntmps16
  go_wp2_with fail
  refine HN.out.mono ?_
  rintro e w1 ⟨rfl, rfl⟩
  go_wp2_with (at_lookup; refine wpList_look rfl rfl rfl rfl HR.out ?_)
  go_ret
  exact ⟨rfl, rfl⟩
set_option maxHeartbeats 1000000 in
theorem drop_some (w : World) (cb : Nat) (s : Cs) (h : CA w cb s) (key : Int) (x : It) (r : Nat) (hr : r < 4) (hx : x ∈ s.R r) (hk : x.key = key) :
    Calls Try.prog 16 #[.pointer (some ⟨cb, 0, none⟩), .int .i64 key] w fun e w' => e = .returned (.int .i64 0) ∧ GoesV cb s (dropF s key) w w' := by
  have p12 : w.cell? ⟨cb, 12, none⟩ = some (.map (some s.mb)) := h.ra.row.cell 12
  have hrun := run_look (P := Try.prog) h.mp Try.underlying61 Try.underlying3 (.pointer none) (zero62 w) key
  have hm : mapOf s.R key = some (ptr (some x.b)) := by
    unfold mapOf
    rw [(fk_iff h.nk key x).2 ⟨mem_allI.2 ⟨r, hr, hx⟩, hk⟩]; rfl
  rw [hm] at hrun
  simp only [Option.getD_some, ptr] at hrun
  obtain ⟨L1, L2, hsp⟩ := mem_split hx
  have HR := Lib.hid hrun
  have HN := Lib.hid (none_any _ cb s h)
  have H := Lib.hid h
  have HD := Lib.hid (detach_any w cb s.R _ _ _ h.ra r hr L1 x L2 hsp)
  have HS := Lib.hid hsp
  have HK := Lib.hid hk
  clear h hrun hm hx hsp hk
  go_enter Try.func16, Try.ntmps16
  go_wp2_with fail
  refine HN.out.mono ?_
  rintro e w1 ⟨rfl, rfl⟩
  go_wp2_with (at_lookup; refine wpList_look rfl rfl rfl rfl HR.out ?_)
  refine HD.out.mono ?_
  rintro e w1 ⟨rfl, ra1, hX1, hf1⟩
  have mp1 : MapAt w1 s.mb (mapOf s.R) := H.out.mp.fr hf1 (by
    rintro (e | ⟨y, hy, e⟩)
    · exact H.out.mc e
    · exact H.out.mi y (mem_allI.2 ⟨r, hr, hy⟩) e)
  have q12 : w1.cell? ⟨cb, 12, none⟩ = some (.map (some s.mb)) := ra1.row.cell 12
  obtain ⟨W2, hdel, mp3, hf3, _⟩ := run_del (P := Try.prog) mp1 Try.underlying61 Try.underlying3 0 3 key
  have HDL := Lib.hid hdel
  have HRA := Lib.hid ra1
  have HF1 := Lib.hid hf1
  have HF3 := Lib.hid hf3
  have HM3 := Lib.hid mp3
  clear p12 hX1 mp1 hdel ra1 hf1 hf3 mp3
  go_wp2_with (at_delete; refine wpList_del rfl rfl rfl rfl rfl HDL.out ?_)
  go_ret
  have hx : x ∈ allI s.R := mem_allI.2 ⟨r, hr, by rw [HS.out]; simp⟩
  have hperm := allI_del (R := s.R) hr HS.out
  have hnk := (hperm.map (·.key)).nodup_iff.1 H.out.nk
  simp only [List.map_cons, List.nodup_cons, List.mem_map, not_exists, not_and] at hnk
  have hmem : ∀ y ∈ allI (upd s.R r (L1 ++ L2)), y ∈ allI s.R := fun y hy => hperm.mem_iff.2 (List.mem_cons_of_mem _ hy)
  have hmO : ∀ y ∈ allI (upd s.R r (L1 ++ L2)), ∃ z ∈ allI s.R, z.b = y.b := fun y hy => ⟨y, hmem y hy, rfl⟩
  have hfo : Fr (Own cb s) w W2 := by
    refine (HF1.out.mono ?_).trans (HF3.out.mono ?_)
    · rintro k _ (e | ⟨y, hy, e⟩)
      · exact .inl e
      · exact .inr (.inr ⟨y, mem_allI.2 ⟨r, hr, hy⟩, e⟩)
    · rintro k _ rfl; exact .inr (.inl rfl)
  have hg : Goes cb s (setR s (upd s.R r (L1 ++ L2))) w (.returned (.tuple #[])) W2 := by
    refine ⟨rfl, ⟨?_, ?_, hnk.2, H.out.mc, fun y hy => H.out.mi y (hmem y hy), ?_, H.out.rm, H.out.tg⟩, hfo, fun k hk => .inl (own_sub hmO hk)⟩
    · exact HRA.out.fr HF3.out (Ne.symm H.out.mc) (fun y hy => H.out.mi y (hmem y hy))
    · refine HM3.out.ext fun k => ?_
      show _ = (fk (allI (upd s.R r (L1 ++ L2))) k).map _
      unfold mapOf
      rw [fk_perm hperm H.out.nk, fk_cons]
      by_cases hk : k = key
      · subst hk
        rw [if_pos rfl, ← HK.out, fk_none fun y hy => hnk.1 y hy]; rfl
      · rw [if_neg hk, if_neg (fun e => hk (e.symm.trans HK.out))]
    · intro y hy d hd
      obtain ⟨h1, h2⟩ := H.out.dt y (hmem y hy) d hd
      exact ⟨h1.fr hfo h2, fun h => h2 (own_sub hmO h)⟩
  have hrm := rmK_at hr HS.out H.out.nk
  rw [HK.out] at hrm
  exact ⟨rfl, (hg.congr hrm).v⟩
end Go.Proofs.Ytefjpljjdjecjaa
