/- NameChains, NameNoRing: the walks. -/
import Derived.Test.YtdjahdipaffajaaWi
namespace Go.Proofs.Ytdjahdipaffajaa
open Go.RowKit
set_option maxHeartbeats 4000000 in
theorem chains_law (w : World) (a : Option Addr) (n cap : Nat) (l : List (Int × Int)) (hs : UpsAt w a n l) (hm : n ≤ maxLen) (ino to : Int) :
    Calls Try.prog 3 #[.slice a n cap, .int .i64 ino, .int .i64 to] w fun e w' => e = .returned (.bool true) ∧ Below w.heap.size w w' := by
  unfold maxLen at hm
  have HS := Lib.hid hs
  clear hs
  by_cases h : n ≤ 150
  · have h1 : (n : Int) ≤ 150 := by omega
    go_enter Try.func3, Try.ntmps3
    go_wp2_with fail
    refine (given_any w a n cap l HS.out (by omega)).mono ?_
    rintro e w1 ⟨a1, c1, rfl, hu1, hb⟩
    have HU1 := Lib.hid hu1
    have HB1 := Lib.hid hb
    clear hu1 hb
    go_wp2_with fail
    refine (depth_any w1 a1 n c1 l HU1.out (by omega) ino).mono ?_
    rintro e w2 ⟨rfl, hb⟩
    have HB2 := Lib.hid (bt HB1.out hb)
    clear hb
    go_wp2_with fail
    refine (refdepth_any w2 a n cap l (HS.out.next HB2.out) (by omega) ino).mono ?_
    rintro e w3 ⟨rfl, hb⟩
    have HB3 := Lib.hid (bt HB2.out hb)
    clear hb
    obtain ⟨x, hx⟩ : ∃ x, x = depN (goUp l ino) := ⟨_, rfl⟩
    obtain ⟨y, hy⟩ : ∃ y, y = (goUp l ino).2 := ⟨_, rfl⟩
    rw [← hx, ← hy]
    clear hx hy
    go_wp2_with fail
    refine (given_any w3 a n cap l (HS.out.next HB3.out) (by omega)).mono ?_
    rintro e w4 ⟨a4, c4, rfl, hu4, hb⟩
    have HU4 := Lib.hid hu4
    have HB4 := Lib.hid (bt HB3.out hb)
    clear hu4 hb
    go_wp2_with fail
    refine (moves_any w4 a4 n c4 l HU4.out (by omega) ino to).mono ?_
    rintro e w5 ⟨rfl, hb⟩
    have HB5 := Lib.hid (bt HB4.out hb)
    clear hb
    go_wp2_with fail
    refine (refmoves_any w5 a n cap l (HS.out.next HB5.out) (by omega) ino to).mono ?_
    rintro e w6 ⟨rfl, hb⟩
    have HB6 := Lib.hid (bt HB5.out hb)
    clear hb
    obtain ⟨z, hz⟩ : ∃ z, z = movE (goUp l to) ino := ⟨_, rfl⟩
    rw [← hz]
    clear hz
    go_wp2_with fail
    refine (awake_any w6).mono ?_
    rintro e w7 ⟨rfl, hb⟩
    have HB7 := Lib.hid (bt HB6.out hb)
    clear hb
    go_wp2
    go_ret
    exact ⟨rfl, HB7.out⟩
  · have h1 : (150 : Int) < (n : Int) := by omega
    go_enter Try.func3, Try.ntmps3
    go_wp2_with fail
    refine (awake_any w).mono ?_
    rintro e w1 ⟨rfl, hb⟩
    have HB1 := Lib.hid hb
    clear hb
    go_wp2
    go_ret
    exact ⟨rfl, HB1.out⟩
/-- The chain with a directory moved. -/
def nowL (l : List (Int × Int)) (ino to : Int) : List (Int × Int) := (ino, to) :: l.filter fun u => u.1 != ino
theorem par_now (l : List (Int × Int)) (ino to k : Int) : par (nowL l ino to) k = if k = ino then some to else par l k := by
  unfold nowL par
  rw [List.find?_cons]
  by_cases e : ino = k
  · subst e; simp
  · have : (ino == k) = false := by simpa using e
    rw [this, if_neg (fun h => e h.symm), List.find?_filter]
    simp only []
    congr 2
    funext u
    by_cases hu : u.1 = k
    · simp [hu, Ne.symm e]
    · simp [hu]
theorem goUp0 {l : List (Int × Int)} {x : Int} : (goUp l x).2 = 0 ↔ ∃ L, Path (par l) x L := by
  constructor
  · intro h
    exact ⟨(goUp l x).1, path_goUp (by rw [← h])⟩
  · rintro ⟨L, hL⟩
    rw [hL.res]
theorem noring_plain {l : List (Int × Int)} {ino to : Int} (h : movE (goUp l to) ino = 0) : (goUp (nowL l ino to) ino).2 = 0 ∧ ∀ x, (goUp l x).2 = 0 → (goUp (nowL l ino to) x).2 = 0 := by
  unfold movE at h
  split at h
  · rename_i h0
    split at h
    · cases h
    · rename_i hn
      have hT := path_goUp (l := l) (x := to) (A := (goUp l to).1) (by rw [← h0])
      have hp : ∀ k, par (nowL l ino to) k = if k = ino then some to else par l k := par_now l ino to
      obtain ⟨h1, h2⟩ := no_ring (m' := par (nowL l ino to)) hT hn (by rw [hp, if_pos rfl]) (fun k hk => by rw [hp, if_neg hk])
      exact ⟨goUp0.2 h1, fun x hx => by obtain ⟨L, hL⟩ := goUp0.1 hx; exact goUp0.2 (h2 x L hL)⟩
  · rename_i hne
    exact absurd h hne
def NwI (w : World) (l : List (Int × Int)) (ino to : Int) (now i : Value) (wr : World) : Prop := ∃ k : Nat, k ≤ l.length ∧ i = .int .i64 k ∧ wr.ownsRow w.heap.size 34 2 now (nowL (l.take k) ino to).length (flat (nowL (l.take k) ino to)) ∧ Below w.heap.size w wr
def NxI (w : World) (n : Nat) (i : Value) (wr : World) : Prop := ∃ k : Nat, k ≤ n ∧ i = .int .i64 k ∧ Below w.heap.size w wr
theorem now_take {l : List (Int × Int)} {k : Nat} {u : Int × Int} (hu : l[k]? = some u) (ino to : Int) : nowL (l.take (k + 1)) ino to = nowL (l.take k) ino to ++ (if u.1 = ino then [] else [u]) := by
  unfold nowL
  rw [List.take_add_one, hu]
  simp only [Option.toList_some, List.filter_append, List.cons_append]
  by_cases e : u.1 = ino
  · simp [e]
  · simp [e]
theorem now_len (l : List (Int × Int)) (ino to : Int) : (nowL l ino to).length ≤ l.length + 1 := by
  unfold nowL
  have := List.length_filter_le (fun u : Int × Int => u.1 != ino) l
  simp
  omega
theorem now_ok {l : List (Int × Int)} {ino to : Int} (h : ∀ u ∈ l, ok64 u.1 ∧ ok64 u.2) (h1 : ok64 ino) (h2 : ok64 to) : ∀ u ∈ nowL l ino to, ok64 u.1 ∧ ok64 u.2 := by
  intro u hu
  rcases List.mem_cons.1 hu with rfl | hu
  · exact ⟨h1, h2⟩
  · exact h u (List.mem_filter.1 hu).1
set_option maxRecDepth 20000 in
set_option maxHeartbeats 8000000 in
theorem noring_law (w : World) (a : Option Addr) (n cap : Nat) (l : List (Int × Int)) (hs : UpsAt w a n l) (hm : n ≤ maxLen) (ino to : Int) (hi : ok64 ino) (ht : ok64 to) :
    Calls Try.prog 4 #[.slice a n cap, .int .i64 ino, .int .i64 to] w fun e w' => e = .returned (.bool true) ∧ Below w.heap.size w w' := by
  unfold maxLen at hm
  have HS := Lib.hid hs
  have HI := Lib.hid hi
  have HT := Lib.hid ht
  clear hs hi ht
  by_cases h : n ≤ 60
  · have h1 : (n : Int) ≤ 60 := by omega
    have h1d : decide ((60 : Int) < (n : Int)) = false := by simp; omega
    go_enter Try.func4, Try.ntmps4
    go_wp2_with fail
    refine (awake_any w).mono ?_
    rintro e w0 ⟨rfl, hb⟩
    have HB0 := Lib.hid hb
    clear hb
    go_wp2_with fail
    refine (given_any w0 a n cap l (HS.out.next HB0.out) (by omega)).mono ?_
    rintro e w1 ⟨a1, c1, rfl, hu1, hb⟩
    have HU1 := Lib.hid hu1
    have HB1 := Lib.hid (bt HB0.out hb)
    clear hu1 hb
    go_wp2_with fail
    refine (moves_any w1 a1 n c1 l HU1.out (by omega) ino to).mono ?_
    rintro e w2 ⟨rfl, hb⟩
    have HU2 := Lib.hid (HU1.out.next hb)
    have HB2 := Lib.hid (bt HB1.out hb)
    clear hb
    obtain ⟨z, hz⟩ : ∃ z, z = movE (goUp l to) ino := ⟨_, rfl⟩
    rw [← hz]
    by_cases hz0 : z = 0
    · have HPL := Lib.hid (noring_plain (l := l) (ino := ino) (to := to) (by rw [← hz]; exact hz0))
      subst hz0
      clear hz
      go_wp2_with fail
      have HO0 : Hid ((w2.alloc (.cells #[.int .i64 ino, .int .i64 to] 34)).ownsRow w2.heap.size 34 2 (.slice (some ⟨w2.heap.size, 0, none⟩) 1 1) 1 [.int .i64 ino, .int .i64 to]) := Lib.hid (World.ownsRow_lit (base := w2.heap.size) (e := 34) (size := 2) w2 #[.int .i64 ino, .int .i64 to] 1 (Nat.le_refl _) (by unfold maxLen; omega) rfl)
      have HB3 := Lib.hid ((Below.refl w2.heap.size w2).alloc (Nat.le_refl _) (.cells #[.int .i64 ino, .int .i64 to] 34))
      generalize w2.alloc (.cells #[.int .i64 ino, .int .i64 to] 34) = W0 at *
      obtain ⟨v0, hv0⟩ : ∃ v, v = Value.slice (some ⟨w2.heap.size, 0, none⟩) 1 1 := ⟨_, rfl⟩
      rw [← hv0] at HO0 ⊢
      clear hv0
      go_loopw [8, 9] (fun now i wr => NwI w2 l ino to now i wr) (fun _ i _ => n - (intOf i).toNat)
      case atStart => exact ⟨0, by omega, rfl, HO0.out, HB3.out⟩
      case round =>
        obtain ⟨k, hk, rfl, ho, hb⟩ := hrel
        rw [HS.out.1] at hk
        have HO := Lib.hid ho
        have HB := Lib.hid hb
        clear ho hb
        by_cases hlt : k < n
        · obtain ⟨b1, o1, rfl, l1, hcs⟩ := HU2.out.get k hlt
          have hll : k < l.length := by have := HS.out.1; omega
          obtain ⟨u, hu⟩ : ∃ u, l[k]? = some u := ⟨l[k], List.getElem?_eq_getElem _⟩
          obtain ⟨q1, q2⟩ := hcs k u hu
          have d1 := (HB.out.cell (p := ⟨b1, o1 + k * 2, none⟩) l1).trans q1
          have d2 := (HB.out.cell (p := ⟨b1, o1 + k * 2 + 1, none⟩) l1).trans q2
          have HTK := Lib.hid (now_take hu ino to)
          obtain ⟨ux, uy⟩ := u
          simp only at d1 d2 HTK
          clear q1 q2 hu hcs hll
          by_cases hx : ux = ino
          · subst hx
            go_wp2_with fail
            go_roundw
            case rel =>
              refine ⟨k + 1, by have := HS.out.1; omega, by go_num, ?_, HB.out⟩
              rw [HTK.out, if_pos rfl, List.append_nil]
              exact HO.out
            case measure => simp [intOf]; omega
          · have hxb : (ux == ino) = false := by simpa using hx
            have hxn : (ux != ino) = true := by simpa using hx
            have HX := Lib.hid hx
            clear hx
            have HRW : Hid (RowAt (wr.alloc (.cells #[.int .i64 ux, .int .i64 uy] 34)) wr.heap.size 34 [.int .i64 ux, .int .i64 uy]) := Lib.hid (RowAt.new wr 34 _)
            have HBa := Lib.hid ((Below.refl wr.heap.size wr).alloc (Nat.le_refl _) (.cells #[.int .i64 ux, .int .i64 uy] 34))
            have HBb := Lib.hid (HB.out.trans (HBa.out.mono HB.out.size))
            have hnl := now_len (l.take k) ino to
            have hnl2 : (nowL (l.take k) ino to).length ≤ 100 := by simp at hnl; omega
            obtain ⟨i0, z0, e1, e2, e3, e4, e5⟩ := info34
            obtain ⟨v', w', hrun, ho', hb'⟩ := run_app1 (P := Try.prog) (wr.alloc (.cells #[.int .i64 ux, .int .i64 uy] 34)) w2.heap.size 27 27 34 i0 z0 2 16 Try.underlying27 e1 e2 e3 e4 e5 (by decide) _ _ _ (owns_next HO.out HBa.out) wr.heap.size 34 1 [.int .i64 ux, .int .i64 uy] HRW.out rfl (by simp [Value.oneCell']) (by unfold maxLen; omega) (by omega) HBb.out.size
            have HRUN := Lib.hid hrun
            have HO2 := Lib.hid ho'
            have HB4 := Lib.hid (HBb.out.trans hb')
            clear hrun ho' hb' e1 e2 e3 e4 e5 hnl
            go_wp2_with (at_builtin; refine wpList_app rfl (.tmp 49) (.tmp 54) 27 27 rfl rfl HRUN.out rfl rfl ?_)
            go_roundw
            case rel =>
              refine ⟨k + 1, by have := HS.out.1; omega, by go_num, ?_, HB4.out⟩
              rw [HTK.out, if_neg HX.out, flat_snoc, List.length_append]
              exact HO2.out
            case measure => simp [intOf]; omega
        · obtain rfl : k = n := by omega
          have ho := HO.out
          rw [List.take_of_length_le (by have := HS.out.1; omega)] at ho
          obtain ⟨a3, c3, rfl, hu3⟩ := ups_owned ho (now_ok HS.out.2.1 HI.out HT.out)
          have HU3 := Lib.hid hu3
          have hnl := now_len l ino to
          have hm3 : (nowL l ino to).length ≤ 100 := by have := HS.out.1; omega
          obtain ⟨m3, hm3e⟩ : ∃ m, m = (nowL l ino to).length := ⟨_, rfl⟩
          rw [← hm3e] at HU3 hm3 ⊢
          have HW2 := Lib.hid (HU2.out.next HB.out)
          have HBw := Lib.hid (bt HB2.out HB.out)
          clear ho hu3 hnl hm3e HO HO0 HB3
          obtain ⟨wn, hwn⟩ : ∃ wn : World, wn = wr := ⟨_, rfl⟩
          rw [← hwn] at HU3 HW2 HBw ⊢
          clear hwn HB
          go_wp2_with fail
          go_loopw [10] (fun i wz => NxI wn k i wz) (fun i _ => k - (intOf i).toNat)
          case atStart => exact ⟨0, by omega, rfl, Below.refl _ _⟩
          case round =>
            obtain ⟨j, hj, rfl, hb⟩ := hrel
            have HB := Lib.hid hb
            clear hb
            by_cases hlj : j < k
            · obtain ⟨b1, o1, rfl, l1, hcs⟩ := HW2.out.get j hlj
              have hll : j < l.length := by have := HS.out.1; omega
              obtain ⟨u, hu⟩ : ∃ u, l[j]? = some u := ⟨l[j], List.getElem?_eq_getElem _⟩
              obtain ⟨q1, q2⟩ := hcs j u hu
              have d1 := (HB.out.cell (p := ⟨b1, o1 + j * 2, none⟩) l1).trans q1
              obtain ⟨ux, uy⟩ := u
              simp only at d1
              have HD1 := Lib.hid q1
              clear q2 hu hcs hll
              go_wp2_with fail
              refine (depth_any wr _ k c1 l (HW2.out.next HB.out) (by omega) ux).mono ?_
              rintro e x1 ⟨rfl, hb⟩
              have HBx := Lib.hid (bt HB.out hb)
              have d2 := (HBx.out.cell (p := ⟨b1, o1 + j * 2, none⟩) l1).trans HD1.out
              have HPX := Lib.hid (HPL.out.2 ux)
              obtain ⟨p1, hp1⟩ : ∃ x, x = depN (goUp l ux) := ⟨_, rfl⟩
              obtain ⟨p2, hp2⟩ : ∃ x, x = (goUp l ux).2 := ⟨_, rfl⟩
              rw [← hp2] at HPX
              rw [← hp1, ← hp2]
              clear hb d1 hp1 hp2 q1
              go_wp2_with fail
              refine (depth_any x1 a3 m3 c3 _ (HU3.out.next HBx.out) (by omega) ux).mono ?_
              rintro e x2 ⟨rfl, hb⟩
              have HBy := Lib.hid (bt HBx.out hb)
              obtain ⟨p3, hp3⟩ : ∃ x, x = depN (goUp (nowL l ino to) ux) := ⟨_, rfl⟩
              obtain ⟨p4, hp4⟩ : ∃ x, x = (goUp (nowL l ino to) ux).2 := ⟨_, rfl⟩
              rw [← hp4] at HPX
              rw [← hp3, ← hp4]
              clear hb d2 hp3 hp4
              by_cases hz2 : p2 = 0
              · have hz4 : p4 = 0 := HPX.out hz2
                subst hz2 hz4
                go_wp2_with fail
                go_roundw
                case rel => exact ⟨j + 1, by omega, by go_num, HBy.out⟩
                case measure => simp [intOf]; omega
              · have hz2b : (p2 == 0) = false := by simpa using hz2
                clear hz2
                go_wp2_with fail
                go_roundw
                case rel => exact ⟨j + 1, by omega, by go_num, HBy.out⟩
                case measure => simp [intOf]; omega
            · obtain rfl : j = k := by omega
              have HP0 : Hid ((goUp (nowL l ino to) ino).2 = 0) := Lib.hid HPL.out.1
              go_wp2_with fail
              refine (depth_any wr a3 m3 c3 _ (HU3.out.next HB.out) (by omega) ino).mono ?_
              rintro e x1 ⟨rfl, hb⟩
              have HBx := Lib.hid (bt HB.out hb)
              obtain ⟨p1, hp1⟩ : ∃ x, x = depN (goUp (nowL l ino to) ino) := ⟨_, rfl⟩
              rw [← hp1, HP0.out]
              clear hb hp1
              go_wp2
              go_ret
              exact ⟨rfl, bt HBw.out HBx.out⟩
    · have hzb : (z == 0) = false := by simpa using hz0
      have hzn : (z != 0) = true := by simpa using hz0
      clear hz0 hz
      go_wp2_with fail
      go_ret
      exact ⟨rfl, HB2.out⟩
  · have h1 : (60 : Int) < (n : Int) := by omega
    go_enter Try.func4, Try.ntmps4
    go_wp2_with fail
    refine (awake_any w).mono ?_
    rintro e w1 ⟨rfl, hb⟩
    have HB1 := Lib.hid hb
    clear hb
    go_wp2
    go_ret
    exact ⟨rfl, HB1.out⟩
end Go.Proofs.Ytdjahdipaffajaa
