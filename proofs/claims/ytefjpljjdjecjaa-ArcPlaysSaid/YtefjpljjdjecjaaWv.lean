/- ArcAsked: the walk. -/
import Derived.Test.YtefjpljjdjecjaaWu
namespace Go.Proofs.Ytefjpljjdjecjaa
open Go.RowKit
theorem IntsAt.kp {A : Nat → Prop} {B : Nat} {l : List Int} {v : Value} {w w' : World} (h : IntsAt B l v w) (hk : Kp A w w') (hA : ∀ k, B ≤ k → k < w.heap.size → A k) : IntsAt B l v w' := by
  obtain ⟨a, cap, rfl, h1, h2, h3⟩ := h
  refine ⟨a, cap, rfl, ?_, h2, h3⟩
  cases l with
  | nil => exact SliceAt.nil _ _
  | cons y l =>
    refine h1.fr hk fun x hx hn => hn (hA _ (h3 x hx) ?_)
    obtain ⟨b, off, e, hb, _⟩ := h1.get 0 (by simp)
    rw [hx] at e; cases e; exact hb
theorem get_pg {A : Nat → Prop} (w : World) (cb : Nat) (p : Pu) (h : PA A w cb p) (hA : ∀ k, A k → k < w.heap.size) (key : Int) :
    Calls Try.prog 12 #[.pointer (some ⟨cb, 0, none⟩), .int .i64 key] w fun e w' => e = .returned (getV p key) ∧ PA A w' cb (getP p key) ∧ Kp A w w' := by
  unfold getV getP
  cases hl : lookP p key with
  | none =>
    refine (get_pa_none w cb p h key hl).mono ?_
    rintro e w' ⟨rfl, h1, h2⟩
    exact ⟨rfl, h1, Kp.of A h2⟩
  | some c =>
    refine (get_pa_some w cb p h hA key c hl).mono ?_
    rintro e w' ⟨rfl, h1, h2⟩
    exact ⟨rfl, h1, h2⟩
/-- What lay below B, and what came between two worlds. -/
def Mid (B : Nat) (w w' : World) (k : Nat) : Prop := k < B ∨ (w.heap.size ≤ k ∧ k < w'.heap.size)
theorem PA.mid {B : Nat} {w w' : World} {cb : Nat} {p : Pu} (h : PB B w cb p) (hb : Below w.heap.size w w') : PA (Mid B w w') w' cb p :=
  (h.add hb).mono fun _ hk => hk.imp id fun e => e.1
def OInv (W : World) (k : Int) (h0 : Bool) (t : List Int) (one had i : Value) (wr : World) : Prop := ∃ j : Nat, j ≤ t.length ∧ i = .int .i64 j ∧ had = .bool (h0 || decide (k ∈ t.take j)) ∧ wr.ownsRow W.heap.size 3 1 one (dropK (t.take j) k).length ((dropK (t.take j) k).map I64) ∧ Below W.heap.size W wr
theorem drop_snoc_eq (l : List Int) (k : Int) : dropK (l ++ [k]) k = dropK l k := by simp [dropK]
theorem drop_snoc_ne (l : List Int) {x k : Int} (h : x ≠ k) : dropK (l ++ [x]) k = dropK l k ++ [x] := by simp [dropK, h]
theorem OInv.hit {W wr : World} {k : Int} {h0 : Bool} {t : List Int} {one : Value} {j : Nat} (hx : t[j]? = some k) (ho : wr.ownsRow W.heap.size 3 1 one (dropK (t.take j) k).length ((dropK (t.take j) k).map I64)) (hb : Below W.heap.size W wr) : OInv W k h0 t one (.bool true) (.int .i64 ((j + 1 : Nat) : Int)) wr := by
  have hj : j < t.length := (List.getElem?_eq_some_iff.1 hx).1
  refine ⟨j + 1, by omega, rfl, ?_, ?_, hb⟩
  · rw [List.take_add_one, hx]; simp
  · rw [List.take_add_one, hx]; simp only [Option.toList_some, drop_snoc_eq]; exact ho
theorem OInv.miss {W wr : World} {k x : Int} {h0 : Bool} {t : List Int} {one : Value} {j : Nat} (hx : t[j]? = some x) (hne : x ≠ k) (ho : wr.ownsRow W.heap.size 3 1 one ((dropK (t.take j) k).length + 1) ((dropK (t.take j) k).map I64 ++ [.int .i64 x])) (hb : Below W.heap.size W wr) : OInv W k h0 t one (.bool (h0 || decide (k ∈ t.take j))) (.int .i64 ((j + 1 : Nat) : Int)) wr := by
  have hj : j < t.length := (List.getElem?_eq_some_iff.1 hx).1
  refine ⟨j + 1, by omega, rfl, ?_, ?_, hb⟩
  · rw [List.take_add_one, hx]; simp [Ne.symm hne]
  · rw [List.take_add_one, hx]; simp only [Option.toList_some, drop_snoc_ne _ hne]; simpa [I64] using ho
theorem app_one {W wr : World} {one : Value} {L : List Int} {x : Int} (ho : wr.ownsRow W.heap.size 3 1 one L.length (L.map I64)) (hb : Below W.heap.size W wr) (hl : L.length ≤ 100000) :
    ∃ v' w', (Builtin.append_ #[33, 33] 33 #[one, .slice (some ⟨wr.heap.size, 0, none⟩) 1 1]).run Try.prog (wr.alloc (.cells #[.int .i64 x] 3)) = .ok v' w' ∧ w'.ownsRow W.heap.size 3 1 v' (L.length + 1) (L.map I64 ++ [.int .i64 x]) ∧ Below W.heap.size W w' := by
  have hnew : RowAt (wr.alloc (.cells #[.int .i64 x] 3)) wr.heap.size 3 [.int .i64 x] := RowAt.new wr 3 _
  obtain ⟨i, z, e1, e2, e3, e4, e5⟩ := info3
  obtain ⟨v', w', hrun, ho', _, _, hb'⟩ := run_app (P := Try.prog) (wr.alloc (.cells #[.int .i64 x] 3)) W.heap.size 33 33 3 i z 8 Try.underlying33 e1 e2 e3 e4 e5 one L.length _ (ho.alloc _) (some ⟨wr.heap.size, 0, none⟩) 1 1 [.int .i64 x] (SliceAt.row hnew) (fun h => by cases h) (fun u hu => by simp at hu; subst hu; rfl) (by unfold maxLen; omega) (by omega) (by simp; have := hb.size; omega)
  exact ⟨v', w', hrun, ho', (hb.alloc hb.size _).trans hb'⟩
def AInv (B : Nat) (w : World) (cb : Nat) (n : Nat) (i : Value) (wr : World) : Prop := ∃ k : Nat, k ≤ n ∧ i = .int .i64 k ∧ (∃ p, PB B wr cb p) ∧ Below B w wr
set_option maxRecDepth 20000 in
set_option maxHeartbeats 8000000 in
theorem asked_any (w : World) (room key : Int) (r0 : 0 ≤ room) (r1 : room < 256) (k0 : 0 ≤ key) (k1 : key < 256) (a : Option Addr) (n cap : Nat) (l : List UInt8) (hs : SliceAt w a n (l.map B8)) (hm : n ≤ maxLen) :
    Calls Try.prog 3 #[.int .u8 room, .slice a n cap, .int .u8 key] w fun e w' => e = .returned (.bool true) ∧ Below w.heap.size w w' := by
  unfold maxLen at hm
  have HS := Lib.hid hs
  have hrem : room % 12 < 12 := by omega
  have hrem0 : 0 ≤ room % 12 := by omega
  clear hs
  go_enter Try.func3, Try.ntmps3
  go_wp2_with fail
  refine (new_pa w (1 + room % 12) (by omega) (by omega)).mono ?_
  rintro e w1 ⟨cb, rfl, hp, hb⟩
  have HP1 := Lib.hid hp
  have HB1 := Lib.hid hb
  clear hp hb
  go_wp2_with fail
  refine (works_any w1).mono ?_
  rintro e w2 ⟨rfl, hb⟩
  have HP2 := Lib.hid (HP1.out.next hb)
  have HB2 := Lib.hid (bt HB1.out hb)
  clear hb
  by_cases hlen : n ≤ 300
  · go_wp2_with fail
    go_loopw [9] (fun i wr => AInv w.heap.size w cb n i wr) (fun i _ => n - (intOf i).toNat)
    case atStart => exact ⟨0, by omega, rfl, ⟨_, HP2.out⟩, HB2.out⟩
    case round =>
      obtain ⟨k, hk, rfl, ⟨p, hp⟩, hb⟩ := hrel
      have HP := Lib.hid hp
      have HB := Lib.hid hb
      clear hp hb
      by_cases hlt : k < n
      · obtain ⟨b1, o1, rfl, l1, q1⟩ := HS.out.get k hlt
        have hll : k < l.length := by have := HS.out.1; simp at this; omega
        obtain ⟨x, hx⟩ : ∃ x, l[k]? = some x := ⟨l[k], List.getElem?_eq_getElem _⟩
        rw [List.getElem?_map, hx] at q1
        have x1 := x.toNat_lt
        have d1 : wr.cell? ⟨b1, o1 + k, none⟩ = some (.int .u8 (x.toNat : Int)) := (HB.out.cell l1).trans q1
        obtain ⟨z, hz⟩ : ∃ z : Int, z = x.toNat := ⟨_, rfl⟩
        rw [← hz] at d1
        have z0 : 0 ≤ z := by omega
        have z1 : z < 256 := by omega
        clear q1 hx hz x1
        obtain ⟨Z, hZ⟩ : ∃ Z, Z = blk 0 := ⟨_, rfl⟩
        have z30 : ∀ w, (zeroValue 30).run Try.prog w = .ok (.agg Z.toArray) w := by intro w; rw [hZ]; exact zero30 w
        have HZ := Lib.hid hZ
        clear hZ
        by_cases h150 : z < 150
        · go_wp2_with fail
          have hput := put_pb wr cb p HP.out HB.out.size (z % 20) 0
          rw [← HZ.out] at hput
          refine hput.mono ?_
          rintro e w3 ⟨rfl, hp, hb⟩
          have HP3 := Lib.hid hp
          have HB3 := Lib.hid (HB.out.trans hb)
          clear hp hb hput
          go_wp2
          go_roundw
          case rel => exact ⟨k + 1, by omega, by go_num, ⟨_, HP3.out⟩, HB3.out⟩
          case measure => simp [intOf]; omega
        · go_wp2_with fail
          refine (get_pb wr cb p HP.out HB.out.size (z % 20)).mono ?_
          rintro e w3 ⟨rfl, hp, hb⟩
          have HP3 := Lib.hid hp
          have HB3 := Lib.hid (HB.out.trans hb)
          clear hp hb
          go_wp2
          go_roundw
          case rel => exact ⟨k + 1, by omega, by go_num, ⟨_, HP3.out⟩, HB3.out⟩
          case measure => simp [intOf]; omega
      · obtain rfl : k = n := by omega
        go_wp2_with fail
        refine (rows_pa wr cb p HP.out).mono ?_
        rintro e w3 ⟨v, rfl, ⟨t1, t2, g1, g2, rfl, i1, i2, i3, i4⟩, hb⟩
        have I1 := Lib.hid i1
        have I2 := Lib.hid i2
        have I3 := Lib.hid i3
        have I4 := Lib.hid i4
        have HB3 := Lib.hid (HB.out.trans (hb.mono HB.out.size))
        have HP3 := Lib.hid (HP.out.next hb)
        have HM3 := Lib.hid (PA.mid HP.out hb)
        have HS3 := Lib.hid hb.size
        clear i1 i2 i3 i4 hb
        go_wp2_with fail
        refine (target_pa w3 cb p HP3.out).mono ?_
        rintro e w4 ⟨rfl, rfl⟩
        go_wp2_with fail
        have hx1 := getP_rows HP.out.wf HP.out.nk (key % 20)
        obtain ⟨c, hc⟩ : ∃ c : List Value, ∃ y : Int, OneC c ∧ getV p (key % 20) = .tuple #[.agg c.toArray, .int .i64 y] ∧ (y = if (lookP p (key % 20)).isSome then 0 else 5) := by
          unfold getV
          cases hl : lookP p (key % 20) with
          | none => exact ⟨blk 0, 5, blk_one 0, rfl, rfl⟩
          | some c => exact ⟨blk c, 0, blk_one c, rfl, rfl⟩
        obtain ⟨y, hc1, hc2, hc3⟩ := hc
        obtain ⟨q, hq⟩ : ∃ q, q = getP p (key % 20) := ⟨_, rfl⟩
        have hget := get_pg w3 cb p HM3.out (fun k hk => by
          rcases hk with hk | hk
          · exact Nat.lt_of_lt_of_le hk (Nat.le_trans HB.out.size HS3.out)
          · exact hk.2) (key % 20)
        rw [hc2, ← hq] at hget
        rw [← hq] at hx1
        have HX1 := Lib.hid hx1
        have HC1 := Lib.hid hc1
        have HC3 := Lib.hid hc3
        clear hx1 hc1 hc2 hc3 hq
        refine hget.mono ?_
        rintro e w4 ⟨rfl, hp, hb⟩
        have HP4 := Lib.hid hp
        have HK4 := Lib.hid hb
        clear hp hb hget
        obtain ⟨Z, hZ⟩ : ∃ Z, Z = blk 0 := ⟨_, rfl⟩
        have z30 : ∀ w, (zeroValue 30).run Try.prog w = .ok (.agg Z.toArray) w := by intro w; rw [hZ]; exact zero30 w
        have HI : Hid ((Try.prog.info? 30).map (·.size) = some c.toArray.size) := Lib.hid (by rw [info30]; simp [HC1.out.1])
        have HO : Hid (Z.toArray.size = c.toArray.size) := Lib.hid (by rw [hZ]; simp [HC1.out.1, (blk_one 0).1])
        have hd : RowAt (w4.alloc (.cells Z.toArray 30)) w4.heap.size 30 Z := RowAt.new w4 30 _
        have HD := Lib.hid hd
        clear hd hZ
        go_wp2_with (refine wpList_store_row rfl 30 (.tmp 16) (.tmp 92) rfl w4.heap.size c.toArray rfl rfl 30 Z.toArray HD.out HI.out HO.out HC1.out.2 ?_)
        have hb5 : Below w4.heap.size w4 ((w4.alloc (.cells Z.toArray 30)).setRow w4.heap.size c.toArray) := ((Below.refl _ _).alloc (Nat.le_refl _) _).trans (below_setRow (Nat.le_refl _))
        generalize (w4.alloc (.cells Z.toArray 30)).setRow w4.heap.size c.toArray = w5 at *
        have HP5 := Lib.hid (HP4.out.next hb5)
        have hmid : ∀ k, wr.heap.size ≤ k → k < w3.heap.size → Mid w.heap.size wr w3 k := fun k h1 h2 => .inr ⟨h1, h2⟩
        have hbk : Kp (Mid w.heap.size wr w3) w3 w5 := Kp.next HK4.out hb5
        have I1' := Lib.hid (I1.out.kp hbk hmid)
        have I2' := Lib.hid (I2.out.kp hbk hmid)
        have I3' := Lib.hid (I3.out.kp hbk hmid)
        have I4' := Lib.hid (I4.out.kp hbk hmid)
        have HB5 : Hid (Below w.heap.size w w5) := Lib.hid (HB3.out.trans (Kp.below (Fr.mono hbk fun k _ hn hk => hn (.inl hk)) (Nat.le_trans HB.out.size HS3.out)))
        clear hb5 hmid hbk I1 I2 I3 I4 HK4 HP4 HD HI HO z30 HM3
        refine (rows_pa w5 cb q HP5.out).mono ?_
        rintro e w6 ⟨v, rfl, ⟨u1, u2, v1, v2, rfl, j1, j2, j3, j4⟩, hb⟩
        have J1 := Lib.hid j1
        have J2 := Lib.hid j2
        have J3 := Lib.hid j3
        have J4 := Lib.hid j4
        have K1 := Lib.hid (I1'.out.next hb)
        have K2 := Lib.hid (I2'.out.next hb)
        have K3 := Lib.hid (I3'.out.next hb)
        have K4 := Lib.hid (I4'.out.next hb)
        have HB6 := Lib.hid (HB5.out.trans (hb.mono HB5.out.size))
        have HP6 := Lib.hid (HP5.out.next hb)
        clear j1 j2 j3 j4 hb I1' I2' I3' I4'
        have hw := HP.out.wf
        have q1 := hw.h1; have q2 := hw.h2; have q3 := hw.h3; have q4 := hw.rm
        have lca : (ksP p.c).length ≤ 100000 := by simp [ksP]; omega
        have lda : (ksP p.d).length ≤ 100000 := by simp [ksP]; omega
        have laa : (ksP p.a).length ≤ 100000 := by simp [ksP]; omega
        have lba : (ksP p.b).length ≤ 5000 := by simp [ksP]; omega
        clear hw q1 q2 q3 q4
        go_wp2_with fail
        refine (same_any w6 _ _ _ _ _ _ K3.out J3.out lca).mono ?_
        rintro e w7 ⟨rfl, hb⟩
        have HB67 := Lib.hid hb
        clear hb
        rw [show decide (ksP p.c = ksP q.c) = true from by simp [HX1.out.1]]
        go_wp2_with fail
        refine (same_any w7 _ _ _ _ _ _ (K4.out.next HB67.out) (J4.out.next HB67.out) lda).mono ?_
        rintro e w8 ⟨rfl, hb⟩
        have HB68 := Lib.hid (bt HB67.out hb)
        clear hb
        rw [show decide (ksP p.d = ksP q.d) = true from by simp [HX1.out.2.1]]
        go_wp2_with fail
        refine (target_pa w8 cb q (HP6.out.next HB68.out)).mono ?_
        rintro e w9 ⟨rfl, rfl⟩
        have htq := HX1.out.2.2.1
        rw [htq]
        clear htq
        have K1' := Lib.hid (K1.out.next HB68.out)
        have K2' := Lib.hid (K2.out.next HB68.out)
        have L1 := Lib.hid (J1.out.next HB68.out)
        have L2 := Lib.hid (J2.out.next HB68.out)
        have HB8 := Lib.hid (HB6.out.trans (HB68.out.mono HB6.out.size))
        clear K1 K2 K3 K4 J1 J2 J3 J4 HB6 HB67 HB68 HP6 HP5 HP3 HB3 HP HB HS3
        go_wp2_with fail
        obtain ⟨m, hm20⟩ : ∃ m, m = key % 20 := ⟨_, rfl⟩
        rw [← hm20]
        rw [← hm20] at HX1 HC3
        have HM20 := Lib.hid hm20
        clear hm20
        obtain ⟨t1l, ht1⟩ : ∃ t, t = ksP p.a := ⟨_, rfl⟩
        obtain ⟨t2l, ht2⟩ : ∃ t, t = ksP p.b := ⟨_, rfl⟩
        rw [← ht1] at K1' HX1 laa
        rw [← ht2] at K2' HX1 lba
        obtain ⟨A1, c1, rfl, s1, _, _⟩ := K1'.out
        have HS1 := Lib.hid s1
        clear s1 K1' ht1 ht2
        go_loopw [22, 24, 25] (fun one had i wz => OInv w8 m false t1l one had i wz) (fun _ _ i _ => t1l.length - (intOf i).toNat)
        case atStart => exact ⟨0, by omega, rfl, by simp, World.ownsRow_nil _ _ _ _, Below.refl _ _⟩
        case round =>
          obtain ⟨j, hj, rfl, rfl, ho, hb⟩ := hrel
          have HOW := Lib.hid ho
          have HBW := Lib.hid hb
          clear ho hb
          by_cases hlt : j < t1l.length
          · obtain ⟨b1, o1, rfl, l1, q1⟩ := HS1.out.get j hlt
            obtain ⟨x, hx⟩ : ∃ x, t1l[j]? = some x := ⟨t1l[j], List.getElem?_eq_getElem _⟩
            rw [List.getElem?_map, hx] at q1
            have d1 := (HBW.out.cell l1).trans q1
            simp only [Option.map_some, I64] at d1
            have HX := Lib.hid hx
            clear q1 hx
            by_cases hxm : x = m
            · subst hxm
              go_wp2_with fail
              go_roundw
              case rel =>
                have := OInv.hit (h0 := false) HX.out HOW.out HBW.out
                simpa using this
              case measure => simp [intOf]; omega
            · have hd : (x == m) = false := by simpa using hxm
              have hdl : (dropK (t1l.take j) m).length ≤ 100000 := by
                have h1 := List.length_filter_le (fun x => !(x == m)) (t1l.take j)
                have h2 := List.length_take_le j t1l
                unfold dropK; omega
              obtain ⟨v', w', hrun, ho', hb'⟩ := app_one (x := x) HOW.out HBW.out hdl
              have HRUN := Lib.hid hrun
              have HO' := Lib.hid ho'
              have HB' := Lib.hid hb'
              obtain ⟨hv, hhv⟩ : ∃ hv : Bool, hv = (false || decide (m ∈ t1l.take j)) := ⟨_, rfl⟩
              rw [← hhv]
              have HHV := Lib.hid hhv
              clear hrun ho' hb' hdl hhv
              go_wp2_with (at_builtin; refine wpList_app rfl (.tmp 129) (.tmp 134) 33 33 rfl rfl HRUN.out rfl rfl ?_)
              go_roundw
              case rel =>
                have := OInv.miss (h0 := false) HX.out hxm HO'.out HB'.out
                rw [← HHV.out] at this
                simpa using this
              case measure => simp [intOf]; omega
          · obtain rfl : j = t1l.length := by omega
            have HBO := HBW
            have HOne : Hid (IntsAt 0 (dropK t1l m) u22 wr) := Lib.hid (by
              have := HOW.out
              rw [List.take_length] at this
              exact (owned_ints (e := 3) this).mono (Nat.zero_le _))
            rw [List.take_length]
            obtain ⟨had1, hhad1⟩ : ∃ h : Bool, h = (false || decide (m ∈ t1l)) := ⟨_, rfl⟩
            rw [← hhad1]
            have HH1 := Lib.hid hhad1
            clear hhad1
            obtain ⟨A2, c2, rfl, s2, _, _⟩ := K2'.out
            have HS2 := Lib.hid (s2.next HBW.out)
            clear s2 K2'
            go_wp2_with fail
            go_loopw [23, 24, 26] (fun one had i wz => OInv wr m had1 t2l one had i wz) (fun _ _ i _ => t2l.length - (intOf i).toNat)
            case atStart => exact ⟨0, by omega, rfl, by simp, World.ownsRow_nil _ _ _ _, Below.refl _ _⟩
            case round =>
              obtain ⟨j, hj, rfl, rfl, ho, hb⟩ := hrel
              have HOW := Lib.hid ho
              have HBW := Lib.hid hb
              clear ho hb
              by_cases hlt : j < t2l.length
              · obtain ⟨b1, o1, rfl, l1, q1⟩ := HS2.out.get j hlt
                obtain ⟨x, hx⟩ : ∃ x, t2l[j]? = some x := ⟨t2l[j], List.getElem?_eq_getElem _⟩
                rw [List.getElem?_map, hx] at q1
                have d1 := (HBW.out.cell l1).trans q1
                simp only [Option.map_some, I64] at d1
                have HX := Lib.hid hx
                clear q1 hx
                by_cases hxm : x = m
                · subst hxm
                  go_wp2_with fail
                  go_roundw
                  case rel =>
                    have := OInv.hit (h0 := had1) HX.out HOW.out HBW.out
                    simpa using this
                  case measure => simp [intOf]; omega
                · have hd : (x == m) = false := by simpa using hxm
                  have hdl : (dropK (t2l.take j) m).length ≤ 100000 := by
                    have h1 := List.length_filter_le (fun x => !(x == m)) (t2l.take j)
                    have h2 := List.length_take_le j t2l
                    unfold dropK; omega
                  obtain ⟨v', w', hrun, ho', hb'⟩ := app_one (x := x) HOW.out HBW.out hdl
                  have HRUN := Lib.hid hrun
                  have HO' := Lib.hid ho'
                  have HB' := Lib.hid hb'
                  obtain ⟨hv, hhv⟩ : ∃ hv : Bool, hv = (had1 || decide (m ∈ t2l.take j)) := ⟨_, rfl⟩
                  rw [← hhv]
                  have HHV := Lib.hid hhv
                  clear hrun ho' hb' hdl hhv
                  go_wp2_with (at_builtin; refine wpList_app rfl (.tmp 148) (.tmp 153) 33 33 rfl rfl HRUN.out rfl rfl ?_)
                  go_roundw
                  case rel =>
                    have := OInv.miss (h0 := had1) HX.out hxm HO'.out HB'.out
                    rw [← HHV.out] at this
                    simpa using this
                  case measure => simp [intOf]; omega
              · obtain rfl : j = t2l.length := by omega
                have hdl2 : (dropK t2l m).length ≤ 5000 := by
                  have h1 := List.length_filter_le (fun x => !(x == m)) t2l
                  unfold dropK; omega
                have hdl : (dropK t2l m).length ≤ 100000 := by
                  have h1 := List.length_filter_le (fun x => !(x == m)) t2l
                  unfold dropK; omega
                have hdl1 : (dropK t1l m).length ≤ 100000 := by
                  have h1 := List.length_filter_le (fun x => !(x == m)) t1l
                  unfold dropK; omega
                have HOw := HOW.out
                rw [List.take_length] at HOw
                have HOW2 := Lib.hid HOw
                rw [List.take_length]
                clear HOw HOW
                have hhad : (had1 || decide (m ∈ t2l)) = decide (m ∈ t1l ∨ m ∈ t2l) := by rw [HH1.out]; simp
                rw [hhad]
                obtain ⟨q1, q2, q3, q4, q5, q6⟩ := HX1.out
                by_cases hmm : m ∈ t1l ∨ m ∈ t2l
                · rw [show decide (m ∈ t1l ∨ m ∈ t2l) = true from by simp [hmm]] at q6 ⊢
                  obtain rfl : y = 0 := by rw [HC3.out, q6]; rfl
                  rw [if_pos hmm] at q5
                  obtain ⟨v', w', hrun, ho', hb'⟩ := app_one (x := m) HOW2.out HBW.out hdl
                  have HRUN := Lib.hid hrun
                  have HO' := Lib.hid ho'
                  have HB' := Lib.hid hb'
                  have Q4 := Lib.hid q4
                  have Q5 := Lib.hid q5
                  clear hrun ho' hb' q1 q2 q3 q4 q5 q6 hhad
                  go_wp2_with (at_builtin; refine wpList_app rfl (.tmp 156) (.tmp 158) 33 33 rfl rfl HRUN.out rfl rfl ?_)
                  refine (same_any _ _ _ _ _ _ _ (HOne.out.next HB'.out) (L1.out.next (bt HBO.out HB'.out)) hdl1).mono ?_
                  rintro e w10 ⟨rfl, hb⟩
                  have HB10 := Lib.hid (bt HB'.out hb)
                  have HTwo : Hid (IntsAt 0 (dropK t2l m ++ [m]) v' w10) := Lib.hid (by
                    have h1 := HO'.out
                    have h2 : (dropK t2l m ++ [m]).map I64 = (dropK t2l m).map I64 ++ [.int .i64 m] := by simp [I64]
                    rw [← h2, show (dropK t2l m).length + 1 = (dropK t2l m ++ [m]).length from by simp] at h1
                    exact ((owned_ints (e := 3) h1).mono (Nat.zero_le _)).next hb)
                  clear hb
                  rw [show decide (dropK t1l m = ksP q.a) = true from by simp [Q4.out]]
                  go_wp2_with fail
                  refine (same_any _ _ _ _ _ _ _ HTwo.out (L2.out.next (bt HBO.out HB10.out)) (by rw [List.length_append, List.length_singleton]; omega)).mono ?_
                  rintro e w11 ⟨rfl, hb⟩
                  have HB11 := Lib.hid (bt HB10.out hb)
                  clear hb
                  rw [show decide (dropK t2l m ++ [m] = ksP q.b) = true from by simp [Q5.out]]
                  go_wp2
                  go_ret
                  exact ⟨rfl, HB8.out.trans ((bt HBO.out HB11.out).mono HB8.out.size)⟩
                · rw [show decide (m ∈ t1l ∨ m ∈ t2l) = false from by simp [hmm]] at q6 ⊢
                  obtain rfl : y = 5 := by rw [HC3.out, q6]; rfl
                  rw [if_neg hmm] at q5
                  have Q4 := Lib.hid q4
                  have Q5 := Lib.hid q5
                  clear q1 q2 q3 q4 q5 q6 hhad
                  go_wp2_with fail
                  refine (same_any _ _ _ _ _ _ _ (HOne.out.next HBW.out) (L1.out.next (bt HBO.out HBW.out)) hdl1).mono ?_
                  rintro e w10 ⟨rfl, hb⟩
                  have HB10 := Lib.hid (bt HBW.out hb)
                  have HTwo : Hid (IntsAt 0 (dropK t2l m) _ w10) := Lib.hid (((owned_ints (e := 3) HOW2.out).mono (Nat.zero_le _)).next hb)
                  clear hb
                  rw [show decide (dropK t1l m = ksP q.a) = true from by simp [Q4.out]]
                  go_wp2_with fail
                  refine (same_any _ _ _ _ _ _ _ HTwo.out (L2.out.next (bt HBO.out HB10.out)) hdl).mono ?_
                  rintro e w11 ⟨rfl, hb⟩
                  have HB11 := Lib.hid (bt HB10.out hb)
                  clear hb
                  rw [show decide (dropK t2l m = ksP q.b) = true from by simp [Q5.out]]
                  go_wp2
                  go_ret
                  exact ⟨rfl, HB8.out.trans ((bt HBO.out HB11.out).mono HB8.out.size)⟩
  · go_wp2_with fail
    refine (works_any w2).mono ?_
    rintro e w3 ⟨rfl, hb⟩
    have HB3 := Lib.hid (bt HB2.out hb)
    clear hb
    go_wp2
    go_ret
    exact ⟨rfl, HB3.out⟩
end Go.Proofs.Ytefjpljjdjecjaa
