/- ArcRoom: the walk. -/
import Derived.Test.YtefjpljjdjecjaaWw
namespace Go.Proofs.Ytefjpljjdjecjaa
open Go.RowKit
theorem made_bools (N : Nat) : madeCells #[Value.bool false] N = (List.replicate N (Value.bool false)).toArray := by
  apply Array.ext
  · simp [size_madeCells]
  · intro i h1 h2
    simp [madeCells, Nat.mod_one]
theorem make39 (w : World) (N : Nat) (h : N ≤ 20) : (Instr.makeSlice 39 (.int .i64 N) (.int .i64 N)).run Try.prog w = .ok (.slice (some ⟨w.heap.size, 0, none⟩) N N) (w.alloc (.cells (List.replicate N (Value.bool false)).toArray 4)) := by
  obtain ⟨i, hi, hz, hs, hby⟩ : ∃ i, Try.prog.info? 4 = some i ∧ i.zero = some (.bool false) ∧ i.size = 1 ∧ i.bytes = 1 := ⟨_, rfl, rfl, rfl, rfl⟩
  have := run_makeSlice (P := Try.prog) w 39 4 i (.bool false) Try.underlying39 hi hz .i64 .i64 N N (by omega) (by omega) (by rw [hs]; simp; omega) (by rw [hby]; omega) (by omega)
  rw [this, hs]
  simp only [Int.toNat_natCast, Nat.mul_one]
  rw [show (Value.bool false).cells = #[Value.bool false] from rfl, made_bools]
def boolsP (p : Pu) (N : Nat) : List Value := (List.range N).map fun k : Nat => .bool (hadP p (k : Int))
def RA4 (B b : Nat) (k : Nat) : Prop := k < B ∨ k = b
def MInv (w : World) (cb b N n : Nat) (i : Value) (wr : World) : Prop := ∃ k : Nat, k ≤ n ∧ i = .int .i64 k ∧ (∃ p, PA (RA4 w.heap.size b) wr cb p ∧ RI N p ∧ RowAt wr b 4 (boolsP p N)) ∧ Below w.heap.size w wr
theorem bools_new (N : Nat) : boolsP (newPu N) N = List.replicate N (.bool false) := by
  apply List.ext_getElem
  · simp [boolsP]
  · intro i h1 h2
    simp [boolsP, hadP, newPu, ksP]
theorem Kp.row {A : Nat → Prop} {w w' : World} {b : Nat} {t : TypeId} {l : List Value} (h : Kp A w w') (hA : A b) (hr : RowAt w b t l) : RowAt w' b t l := by
  have hl := hr.lt
  unfold RowAt at *
  rw [h.block b hl (fun hn => hn hA)]; exact hr
theorem PA.keep {A : Nat → Prop} {w : World} {cb : Nat} {p : Pu} (h : PA A w cb p) {b : Nat} {t : TypeId} {l : List Value} (hA : A b) (hr : RowAt w b t l) (ht : t ≠ 30) (i : Nat) (v : Value) : PA A (w.setCell ⟨b, i, none⟩ v) cb p := by
  obtain ⟨s, h1, h2, h3, h4, h5⟩ := h
  refine ⟨s, h1.fr (M := fun k => k = b) ((Fr.refl (fun k => k = b) w).setCell (b := b) (i := i) rfl v) (fun k hk => hk ▸ h5 b hA) (fun x hx d hd hdb => ?_), h2, h3, h4, h5⟩
  have := (h1.dt x hx d hd).1
  subst hdb
  unfold RowAt at this hr
  rw [this] at hr
  simp at hr
  exact ht hr.2.symm
theorem boolsP_get (p : Pu) (N k : Nat) (h : k < N) : (boolsP p N)[k]? = some (.bool (hadP p (k : Int))) := by
  simp [boolsP, h]
theorem boolsP_set (p q : Pu) (N k : Nat) (h : ∀ j, hadP q j = (hadP p j || decide (j = (k : Int)))) : (boolsP p N).set k (.bool true) = boolsP q N := by
  apply List.ext_getElem
  · simp [boolsP]
  · intro i h1 h2
    simp only [boolsP, List.getElem_set, List.getElem_map, List.getElem_range, h]
    by_cases e : k = i
    · subst e; simp
    · rw [if_neg e]
      have : ¬ ((i : Int) = (k : Int)) := by omega
      simp [this]
theorem boolsP_same (p q : Pu) (N : Nat) (h : ∀ j, hadP q j = hadP p j) : boolsP p N = boolsP q N := by
  simp [boolsP, h]
def CInv (w3 : World) (p : Pu) (N : Nat) (m i : Value) (wr : World) : Prop := ∃ j : Nat, j ≤ N ∧ i = .int .i64 j ∧ m = .int .i64 (manyP p j : Nat) ∧ wr = w3
theorem many_succ (p : Pu) (j : Nat) : manyP p (j + 1) = manyP p j + (if hadP p (j : Int) then 1 else 0) := by
  unfold manyP
  rw [List.range_succ, List.countP_append]
  simp [List.countP_cons]
theorem many_le (p : Pu) (j : Nat) : manyP p j ≤ j := by
  unfold manyP
  have := List.countP_le_length (p := fun (k : Nat) => hadP p (k : Int)) (l := List.range j)
  simpa using this
set_option maxRecDepth 20000 in
set_option maxHeartbeats 8000000 in
theorem room_law (w : World) (room : Int) (r0 : 0 ≤ room) (r1 : room < 256) (a : Option Addr) (n cap : Nat) (l : List UInt8) (hs : SliceAt w a n (l.map B8)) (hm : n ≤ maxLen) :
    Calls Try.prog 4 #[.int .u8 room, .slice a n cap] w fun e w' => e = .returned (.bool true) ∧ Below w.heap.size w w' := by
  unfold maxLen at hm
  have HS := Lib.hid hs
  have hrem : room % 20 < 20 := by omega
  have hrem0 : 0 ≤ room % 20 := by omega
  clear hs
  go_enter Try.func4, Try.ntmps4
  go_wp2_with fail
  refine (new_pa w (1 + room % 20) (by omega) (by omega)).mono ?_
  rintro e w1 ⟨cb, rfl, hp, hb⟩
  have HP1 := Lib.hid hp
  have HB1 := Lib.hid hb
  clear hp hb
  go_wp2_with fail
  refine (works_any w1).mono ?_
  rintro e w2 ⟨rfl, hb⟩
  have HP2 := Lib.hid (HP1.out.next hb)
  have HB2 := Lib.hid (bt HB1.out hb)
  clear hb
  by_cases hlen : n ≤ 300
  · obtain ⟨N, hN⟩ : ∃ N : Nat, (N : Int) = 1 + room % 20 := ⟨(1 + room % 20).toNat, by omega⟩
    have hN1 : 1 ≤ N := by omega
    have hN2 : N ≤ 20 := by omega
    rw [← hN] at HP1 HP2 ⊢
    have HN := Lib.hid hN
    obtain ⟨F, hF⟩ : ∃ F, F = List.replicate N (Value.bool false) := ⟨_, rfl⟩
    have hmk : ∀ w, (Instr.makeSlice 39 (.int .i64 (N : Int)) (.int .i64 (N : Int))).run Try.prog w = .ok (.slice (some ⟨w.heap.size, 0, none⟩) N N) (w.alloc (.cells F.toArray 4)) := fun w => by rw [hF]; exact make39 w N hN2
    have HF := Lib.hid hF
    clear hN hF
    go_wp2_with fail
    have hal := al1 w2 (.cells F.toArray 4)
    have hrow : RowAt (w2.alloc (.cells F.toArray 4)) w2.heap.size 4 F := RowAt.new w2 4 _
    have HP3 := Lib.hid (HP2.out.one hal w2.heap.size (Nat.le_refl _))
    have HB3 := Lib.hid (HB2.out.trans (hal.mono HB2.out.size))
    have HRW := Lib.hid hrow
    have hbw : w.heap.size ≤ w2.heap.size := HB2.out.size
    clear hal hrow hmk
    generalize w2.alloc (.cells F.toArray 4) = w3 at *
    obtain ⟨b, hb⟩ : ∃ b, b = w2.heap.size := ⟨_, rfl⟩
    rw [← hb] at HP3 HRW hbw ⊢
    clear hb
    go_loopw [9] (fun i wr => MInv w cb b N n i wr) (fun i _ => n - (intOf i).toNat)
    case atStart => exact ⟨0, by omega, rfl, ⟨_, HP3.out, RI.new N, by rw [bools_new, ← HF.out]; exact HRW.out⟩, HB3.out⟩
    case round =>
      obtain ⟨k, hk, rfl, ⟨p, hp, hri, hrw⟩, hb⟩ := hrel
      have HP := Lib.hid hp
      have HRI := Lib.hid hri
      have HRB := Lib.hid hrw
      have HB := Lib.hid hb
      clear hp hri hrw hb HP3 HB3 HRW HF
      by_cases hlt : k < n
      · obtain ⟨b1, o1, rfl, l1, q1⟩ := HS.out.get k hlt
        have hll : k < l.length := by have := HS.out.1; simp at this; omega
        obtain ⟨x, hx⟩ : ∃ x, l[k]? = some x := ⟨l[k], List.getElem?_eq_getElem _⟩
        rw [List.getElem?_map, hx] at q1
        have x1 := x.toNat_lt
        have d1 : wr.cell? ⟨b1, o1 + k, none⟩ = some (.int .u8 (x.toNat : Int)) := (HB.out.cell l1).trans q1
        obtain ⟨z, hz⟩ : ∃ z : Int, z = x.toNat := ⟨_, rfl⟩
        rw [← hz] at d1
        have z0 : 0 ≤ z := by omega
        have z1 : z < 256 := by omega
        clear q1 hx hz x1
        obtain ⟨Z, hZ⟩ : ∃ Z, Z = blk 0 := ⟨_, rfl⟩
        have z30 : ∀ w, (zeroValue 30).run Try.prog w = .ok (.agg Z.toArray) w := by intro w; rw [hZ]; exact zero30 w
        have HZ := Lib.hid hZ
        have HI : Hid ((Try.prog.info? 30).map (·.size) = some Z.toArray.size) := Lib.hid (by rw [info30, hZ]; simp [(blk_one 0).1])
        have HZ1 : Hid (OneC Z) := Lib.hid (by rw [hZ]; exact blk_one 0)
        have HD := Lib.hid (RowAt.new wr 30 Z)
        have hN0 : (N : Int) ≠ 0 := by omega
        clear hZ
        obtain ⟨kk, hkk⟩ : ∃ kk : Nat, z % (N : Int) = (kk : Int) := ⟨(z % (N : Int)).toNat, by have := Int.emod_nonneg z hN0; omega⟩
        have hkN : kk < N := by have := Int.emod_lt_of_pos z (show (0 : Int) < N by omega); omega
        obtain ⟨d, hd⟩ : ∃ d, d = wr.heap.size := ⟨_, rfl⟩
        have hdr : RowAt ((wr.alloc (.cells Z.toArray 30)).setRow wr.heap.size Z.toArray) wr.heap.size 30 Z := HD.out.setRow
        have hbl : Below wr.heap.size wr ((wr.alloc (.cells Z.toArray 30)).setRow wr.heap.size Z.toArray) := ((Below.refl _ _).alloc (Nat.le_refl _) _).trans (below_setRow (Nat.le_refl _))
        have hlb1 : b1 < wr.heap.size := Nat.lt_of_lt_of_le l1 HB.out.size
        have hc0 : ((wr.alloc (.cells Z.toArray 30)).setRow wr.heap.size Z.toArray).cell? ⟨wr.heap.size, 0, none⟩ = some (.int .u8 0) := by rw [hdr.cell, HZ.out]; rfl
        have hf0 := hdr.free 0
        have hx1 := (hbl.cell (p := ⟨b1, o1 + k, none⟩) hlb1).trans d1
        have HDR := Lib.hid (hdr.set 0 (.int .u8 (kk : Int)))
        have HBL := Lib.hid hbl
        clear hdr hbl hd
        have HZB : Hid (Z.set 0 (.int .u8 (kk : Int)) = blk kk) := Lib.hid (by rw [HZ.out]; rfl)
        obtain ⟨Y, hY⟩ : ∃ Y, Y = blk (kk : Int) := ⟨_, rfl⟩
        rw [HZB.out, ← hY] at HDR
        have HY := Lib.hid hY
        have HYL : Hid (Y.length = 512) := Lib.hid (by rw [hY]; exact (blk_one _).1)
        clear hY
        have HB2w : Hid (Below wr.heap.size wr (((wr.alloc (.cells Z.toArray 30)).setRow wr.heap.size Z.toArray).setCell ⟨wr.heap.size, 0, none⟩ (.int .u8 (kk : Int)))) := Lib.hid (HBL.out.setCell (Nat.le_refl _) _)
        by_cases hz200 : z < 200
        · go_wp2_with (first | (refine wpList_store_row rfl 30 (.tmp 11) (.tmp 56) rfl wr.heap.size Z.toArray rfl rfl 30 Z.toArray HD.out HI.out rfl HZ1.out.2 ?_) | (refine wpList_loadR (x := .tmp 11) rfl rfl rfl (load30 HDR.out HYL.out) ?_))
          have HPW := Lib.hid (HP.out.next HB2w.out)
          have HRW2 := Lib.hid (HRB.out.next HB2w.out)
          have hbs : b < wr.heap.size := HRB.out.lt
          generalize ((wr.alloc (.cells Z.toArray 30)).setRow wr.heap.size Z.toArray).setCell ⟨wr.heap.size, 0, none⟩ (.int .u8 (kk : Int)) = W2 at *
          have hput := put_pa W2 cb p HPW.out (fun k hk => by
            have := HB2w.out.size
            have := HB.out.size
            rcases hk with hk | hk <;> omega) kk kk
          rw [← HY.out] at hput
          refine hput.mono ?_
          rintro e w4 ⟨rfl, hp, hk4⟩
          have HP4 := Lib.hid hp
          have HR4 := Lib.hid (hk4.row (.inr rfl) HRW2.out)
          have HB4 : Hid (Below w.heap.size w w4) := Lib.hid (HB.out.trans ((HB2w.out.mono HB.out.size).trans (Kp.below (Fr.mono hk4 fun k _ hn hk => hn (.inl hk)) (Nat.le_trans HB.out.size HB2w.out.size))))
          clear hp hk4 hput
          have hcb := (HR4.out.cell kk).trans (boolsP_get p N kk hkN)
          have hfb := HR4.out.free kk
          go_wp2
          go_roundw
          case rel =>
            have hk0 : (0 : Int) ≤ (kk : Int) ∧ (kk : Int) < (N : Int) := by omega
            obtain ⟨hr1, hr2⟩ := HRI.out.put HP.out.nk hk0
            refine ⟨k + 1, by omega, by go_num, ⟨_, HP4.out.keep (.inr rfl) HR4.out (by decide) _ _, hr1, ?_⟩, HB4.out.setCell hbw _⟩
            have := HR4.out.set kk (.bool true)
            rwa [boolsP_set p _ N kk hr2] at this
          case measure => simp [intOf]; omega
        · have hnot : ¬ z < 200 := hz200
          go_wp2_with (first | (refine wpList_store_row rfl 30 (.tmp 11) (.tmp 56) rfl wr.heap.size Z.toArray rfl rfl 30 Z.toArray HD.out HI.out rfl HZ1.out.2 ?_))
          have HPW := Lib.hid (HP.out.one HB2w.out wr.heap.size (Nat.le_refl _))
          have HRW2 := Lib.hid (HRB.out.next HB2w.out)
          have hbs : b < wr.heap.size := HRB.out.lt
          have hds := HDR.out.lt
          generalize ((wr.alloc (.cells Z.toArray 30)).setRow wr.heap.size Z.toArray).setCell ⟨wr.heap.size, 0, none⟩ (.int .u8 (kk : Int)) = W2 at *
          have hget := get_pg W2 cb p HPW.out (fun k hk => by
            have := HB2w.out.size
            have := HB.out.size
            rcases hk with (hk | hk) | hk <;> omega) kk
          have hk0 : (0 : Int) ≤ (kk : Int) ∧ (kk : Int) < (N : Int) := by omega
          have hlook := HRI.out.look HP.out.wf kk
          have HG := Lib.hid (HRI.out.get HP.out.wf hk0)
          obtain ⟨q, hq⟩ : ∃ q, q = getP p kk := ⟨_, rfl⟩
          rw [← hq] at HG hget
          obtain ⟨dd, hdd⟩ : ∃ dd, dd = wr.heap.size := ⟨_, rfl⟩
          rw [← hdd] at HDR hds hget HPW ⊢
          clear hq hk0 hdd hc0 hf0 hx1
          by_cases hh : hadP p kk = true
          · rw [show getV p (kk : Int) = .tuple #[.agg Y.toArray, .int .i64 0] from by unfold getV; rw [hlook, if_pos hh, HY.out]] at hget
            refine hget.mono ?_
            rintro e w4 ⟨rfl, hp, hk4⟩
            have HP4 := Lib.hid (hp.mono (A' := RA4 w.heap.size b) fun k hk => .inl hk)
            have HR4 := Lib.hid (hk4.row (.inl (.inr rfl)) HRW2.out)
            have HD4 := Lib.hid (hk4.row (.inr rfl) HDR.out)
            have HB4 : Hid (Below w.heap.size w w4) := Lib.hid (HB.out.trans ((HB2w.out.mono HB.out.size).trans (Kp.below (Fr.mono hk4 fun k _ hn hk => hn (.inl (.inl hk))) (Nat.le_trans HB.out.size HB2w.out.size))))
            have hb5 : Below w4.heap.size w4 ((w4.alloc (.cells Z.toArray 30)).setRow w4.heap.size Y.toArray) := ((Below.refl _ _).alloc (Nat.le_refl _) _).trans (below_setRow (Nat.le_refl _))
            have HX := Lib.hid (RowAt.new w4 30 Z)
            have HX2 := Lib.hid ((RowAt.new w4 30 Z).setRow (l' := Y))
            have HR5 := Lib.hid (HR4.out.next hb5)
            have HD5 := Lib.hid (HD4.out.next hb5)
            have HB5 := Lib.hid hb5
            have HIY : Hid ((Try.prog.info? 30).map (·.size) = some Y.toArray.size) := Lib.hid (by rw [info30]; simp [HYL.out])
            have HOY : Hid (Z.toArray.size = Y.toArray.size) := Lib.hid (by simp [HZ1.out.1, HYL.out])
            have HYO : Hid (OneC Y) := Lib.hid (by rw [HY.out]; exact blk_one _)
            have HEQ : Hid (∀ w, (Op.equalIn 10000 30 (.agg Y.toArray) (.agg Y.toArray)).run Try.prog w = .ok true w) := Lib.hid (by intro w; rw [HY.out, eq30]; simp)
            have hcb := (HR5.out.cell kk).trans (boolsP_get p N kk hkN)
            rw [hh] at hcb
            clear hp hk4 hget hb5 hlook
            go_wp2_with (first | (refine wpList_store_row rfl 30 (.tmp 12) (.tmp 77) rfl w4.heap.size Y.toArray rfl rfl 30 Z.toArray HX.out HIY.out HOY.out HYO.out.2 ?_) | (refine wpList_loadR (x := .tmp 12) rfl rfl rfl (load30 HX2.out HYL.out) ?_) | (refine wpList_loadR (x := .tmp 11) rfl rfl rfl (load30 HD5.out HYL.out) ?_) | (refine wpList_eqlR (x := .tmp 92) (y := .tmp 93) rfl rfl rfl rfl (guard30 _ _ _ _ _ _) (neq30 (HEQ.out _)) ?_))
            go_roundw
            case rel =>
              refine ⟨k + 1, by omega, by go_num, ⟨_, HP4.out.next HB5.out, HG.out.1, ?_⟩, HB4.out.trans (HB5.out.mono HB4.out.size)⟩
              rw [← boolsP_same p q N HG.out.2]
              exact HR5.out
            case measure => simp [intOf]; omega
          · rw [show getV p (kk : Int) = .tuple #[.agg Z.toArray, .int .i64 5] from by unfold getV; rw [hlook, if_neg hh, HZ.out]] at hget
            refine hget.mono ?_
            rintro e w4 ⟨rfl, hp, hk4⟩
            have HP4 := Lib.hid (hp.mono (A' := RA4 w.heap.size b) fun k hk => .inl hk)
            have HR4 := Lib.hid (hk4.row (.inl (.inr rfl)) HRW2.out)
            have HB4 : Hid (Below w.heap.size w w4) := Lib.hid (HB.out.trans ((HB2w.out.mono HB.out.size).trans (Kp.below (Fr.mono hk4 fun k _ hn hk => hn (.inl (.inl hk))) (Nat.le_trans HB.out.size HB2w.out.size))))
            have hb5 : Below w4.heap.size w4 ((w4.alloc (.cells Z.toArray 30)).setRow w4.heap.size Z.toArray) := ((Below.refl _ _).alloc (Nat.le_refl _) _).trans (below_setRow (Nat.le_refl _))
            have HX := Lib.hid (RowAt.new w4 30 Z)
            have HR5 := Lib.hid (HR4.out.next hb5)
            have HB5 := Lib.hid hb5
            have hcb := (HR5.out.cell kk).trans (boolsP_get p N kk hkN)
            rw [show hadP p (kk : Int) = false from by simpa using hh] at hcb
            clear hp hk4 hget hb5 hlook
            go_wp2_with (first | (refine wpList_store_row rfl 30 (.tmp 12) (.tmp 77) rfl w4.heap.size Z.toArray rfl rfl 30 Z.toArray HX.out HI.out rfl HZ1.out.2 ?_))
            go_roundw
            case rel =>
              refine ⟨k + 1, by omega, by go_num, ⟨_, HP4.out.next HB5.out, HG.out.1, ?_⟩, HB4.out.trans (HB5.out.mono HB4.out.size)⟩
              rw [← boolsP_same p q N HG.out.2]
              exact HR5.out
            case measure => simp [intOf]; omega
      · obtain rfl : k = n := by omega
        go_wp2_with fail
        refine (rows_pa wr cb p HP.out).mono ?_
        rintro e w3 ⟨v, rfl, ⟨t1, t2, g1, g2, rfl, ⟨A1, c1, rfl, _, _, _⟩, ⟨A2, c2, rfl, _, _, _⟩, ⟨A3, c3, rfl, _, _, _⟩, ⟨A4, c4, rfl, _, _, _⟩⟩, hb⟩
        have HB3 := Lib.hid (HB.out.trans (hb.mono HB.out.size))
        have HP3 := Lib.hid (HP.out.next hb)
        have HR3 := Lib.hid (HRB.out.next hb)
        have HCN := Lib.hid (HRI.out.many HP.out.nk)
        have HWF := Lib.hid HP.out.wf
        clear hb HP HRB HB
        go_wp2_with fail
        go_loopw [18, 19] (fun m i wz => CInv w3 p N m i wz) (fun _ i _ => N - (intOf i).toNat)
        case atStart => exact ⟨0, by omega, rfl, rfl, rfl⟩
        case round =>
          obtain ⟨j, hj, rfl, rfl, rfl⟩ := hrel
          have hml := many_le p j
          by_cases hlt : j < N
          · have hcb := (HR3.out.cell j).trans (boolsP_get p N j hlt)
            have hms := many_succ p j
            have HMS := Lib.hid hms
            clear hms
            obtain ⟨M, hM⟩ : ∃ M, M = manyP p j := ⟨_, rfl⟩
            rw [← hM] at HMS hml ⊢
            clear hM
            by_cases hh : hadP p j = true
            · rw [hh] at hcb
              go_wp2_with fail
              go_roundw
              case rel => exact ⟨j + 1, by omega, by go_num, by rw [HMS.out, if_pos hh]; go_num, rfl⟩
              case measure => simp [intOf]; omega
            · rw [show hadP p (j : Int) = false from by simpa using hh] at hcb
              go_wp2_with fail
              go_roundw
              case rel => exact ⟨j + 1, by omega, by go_num, by rw [HMS.out, if_neg hh]; go_num, rfl⟩
              case measure => simp [intOf]; omega
          · obtain rfl : j = N := by omega
            have q1 := HWF.out.h1; have q4 := HWF.out.rm
            have hca := HCN.out
            obtain ⟨la, hla⟩ : ∃ la, la = p.a.length := ⟨_, rfl⟩
            obtain ⟨lb, hlb⟩ : ∃ lb, lb = p.b.length := ⟨_, rfl⟩
            rw [show (ksP p.a).length = la from by simp [ksP, hla], show (ksP p.b).length = lb from by simp [ksP, hlb], show (ksP p.c).length = 0 from by simp [ksP, HRI.out.pc], show (ksP p.d).length = 0 from by simp [ksP, HRI.out.pd], hca, ← hla, ← hlb]
            rw [← hla, ← hlb] at q1
            have HTG := Lib.hid HRI.out.tg
            have hab : la + lb ≤ 2000 := by omega
            clear q1 q4 hca hla hlb hml
            go_wp2_with fail
            refine (target_pa _ cb p HP3.out).mono ?_
            rintro e w6 ⟨rfl, rfl⟩
            rw [HTG.out]
            go_wp2
            go_ret
            exact ⟨rfl, HB3.out⟩
  · go_wp2_with fail
    refine (works_any w2).mono ?_
    rintro e w3 ⟨rfl, hb⟩
    have HB3 := Lib.hid (bt HB2.out hb)
    clear hb
    go_wp2
    go_ret
    exact ⟨rfl, HB3.out⟩
end Go.Proofs.Ytefjpljjdjecjaa
