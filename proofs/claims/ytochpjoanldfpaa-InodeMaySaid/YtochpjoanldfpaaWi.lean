/- InodeChanges walked: true at every input. -/
import Derived.Test.YtochpjoanldfpaaWh
namespace Go.Proofs.Ytochpjoanldfpaa
open Go.RowKit
theorem RowAt.set8 {w : World} {b : Nat} {t : TypeId} {o0 o1 o2 o3 o4 o5 o6 o7 : Value} (h : RowAt w b t [o0, o1, o2, o3, o4, o5, o6, o7]) (v0 v1 v2 v3 v4 v5 v6 v7 : Value) : RowAt ((((((((w.setCell ⟨b, 0, none⟩ v0).setCell ⟨b, 1, none⟩ v1).setCell ⟨b, 2, none⟩ v2).setCell ⟨b, 3, none⟩ v3).setCell ⟨b, 4, none⟩ v4).setCell ⟨b, 5, none⟩ v5).setCell ⟨b, 6, none⟩ v6).setCell ⟨b, 7, none⟩ v7) b t [v0, v1, v2, v3, v4, v5, v6, v7] :=
  (((((((h.set 0 v0).set 1 v1).set 2 v2).set 3 v3).set 4 v4).set 5 v5).set 6 v6).set 7 v7
theorem RowAt.set8o {w : World} {b c : Nat} {t : TypeId} {l : List Value} (h : RowAt w c t l) (hc : c ≠ b) (v0 v1 v2 v3 v4 v5 v6 v7 : Value) : RowAt ((((((((w.setCell ⟨b, 0, none⟩ v0).setCell ⟨b, 1, none⟩ v1).setCell ⟨b, 2, none⟩ v2).setCell ⟨b, 3, none⟩ v3).setCell ⟨b, 4, none⟩ v4).setCell ⟨b, 5, none⟩ v5).setCell ⟨b, 6, none⟩ v6).setCell ⟨b, 7, none⟩ v7) c t l :=
  (((((((h.other 0 v0 hc).other 1 v1 hc).other 2 v2 hc).other 3 v3 hc).other 4 v4 hc).other 5 v5 hc).other 6 v6 hc).other 7 v7 hc
theorem below_set8 {B : Nat} {w0 w : World} {b : Nat} (h : Below B w0 w) (hB : B ≤ b) (v0 v1 v2 v3 v4 v5 v6 v7 : Value) : Below B w0 ((((((((w.setCell ⟨b, 0, none⟩ v0).setCell ⟨b, 1, none⟩ v1).setCell ⟨b, 2, none⟩ v2).setCell ⟨b, 3, none⟩ v3).setCell ⟨b, 4, none⟩ v4).setCell ⟨b, 5, none⟩ v5).setCell ⟨b, 6, none⟩ v6).setCell ⟨b, 7, none⟩ v7) :=
  (((((((h.setCell hB v0).setCell hB v1).setCell hB v2).setCell hB v3).setCell hB v4).setCell hB v5).setCell hB v6).setCell hB v7

set_option maxHeartbeats 8000000 in
theorem changes_raw (k m l s t c i g kd mode by_ size now x y z K1 M1 L1 S1 T1 C1 I1 G1 E1 K2 M2 L2 S2 T2 C2 I2 G2 E2 K3 M3 L3 S3 T3 C3 I3 G3 E3 K4 M4 L4 S4 T4 C4 I4 G4 E4 : Int) (w : World) (h0 : -9223372036854775808 ≤ l) (h9 : l ≤ 9223372036854775807)
    (H1 : Hid (newF kd mode i g now = (⟨K1, M1, L1, S1, T1, C1, I1, G1⟩, E1)))
    (H2 : Hid (linkedF ⟨k, m, l, s, t, c, i, g⟩ by_ now = (⟨K2, M2, L2, S2, T2, C2, I2, G2⟩, E2)))
    (H3 : Hid (sizedF ⟨k, m, l, s, t, c, i, g⟩ size now = (⟨K3, M3, L3, S3, T3, C3, I3, G3⟩, E3)))
    (H4 : Hid (modedF ⟨k, m, l, s, t, c, i, g⟩ mode now = (⟨K4, M4, L4, S4, T4, C4, I4, G4⟩, E4))) :
    Calls Try.prog 3 #[.agg #[.int .u8 k, .int .i64 m, .int .i64 l, .int .i64 s, .int .i64 t, .int .i64 c, .int .i64 i, .int .i64 g], .int .u8 kd, .int .i64 mode, .int .i64 by_, .int .i64 size, .int .i64 now, .agg #[.int .i64 x, .int .i64 y, .int .i64 z]] w fun e w' => e = .returned (.bool true) ∧ Below w.heap.size w w' := by
  go_enter Try.func3, Try.ntmps3
  go_wp2_with fail
  refine (newV kd mode i g now K1 M1 L1 S1 T1 C1 I1 G1 E1 _ H1.out).mono ?_
  rintro e w1 ⟨rfl, hb⟩
  have A := ((RowAt.new w 23 [.int .u8 k, .int .i64 m, .int .i64 l, .int .i64 s, .int .i64 t, .int .i64 c, .int .i64 i, .int .i64 g]).alloc (.cells #[.int .i64 x, .int .i64 y, .int .i64 z] 25)).next hb
  have J : RowAt w1 (w.heap.size + 1) 25 [.int .i64 x, .int .i64 y, .int .i64 z] := by
    have := (RowAt.new (w.alloc (.cells #[.int .u8 k, .int .i64 m, .int .i64 l, .int .i64 s, .int .i64 t, .int .i64 c, .int .i64 i, .int .i64 g] 23)) 25 [.int .i64 x, .int .i64 y, .int .i64 z]).next hb
    simpa only [World.size_alloc] using this
  have hw := bt (below2 w _ _) hb
  obtain ⟨ba, hba⟩ : ∃ ba, ba = w.heap.size := ⟨_, rfl⟩
  obtain ⟨bj, hbj⟩ : ∃ bj, bj = w.heap.size + 1 := ⟨_, rfl⟩
  rw [← hbj] at J ⊢
  rw [← hba] at A ⊢
  have hl1 : w.heap.size ≤ w1.heap.size := hw.size
  have Alt := A.lt
  have Jlt := J.lt
  clear hb hba hbj
  have p0 := A.cell 0
  have p1 := A.cell 1
  have p2 := A.cell 2
  have p3 := A.cell 3
  have p4 := A.cell 4
  have p5 := A.cell 5
  have p6 := A.cell 6
  have p7 := A.cell 7
  have pz := A.lt
  simp at p0 p1 p2 p3 p4 p5 p6 p7
  go_wp2_with fail
  refine (newRV kd mode i g now K1 M1 L1 S1 T1 C1 I1 G1 E1 _ H1.out).mono ?_
  rintro e w2 ⟨rfl, hb⟩
  clear p0 p1 p2 p3 p4 p5 p6 p7 pz
  replace A := (A.alloc _).next hb
  replace J := (J.alloc _).next hb
  have Bq := (RowAt.new w1 23 [.int .u8 K1, .int .i64 M1, .int .i64 L1, .int .i64 S1, .int .i64 T1, .int .i64 C1, .int .i64 I1, .int .i64 G1]).next hb
  replace hw := btA hw hb
  obtain ⟨bb, hbb⟩ : ∃ bb, bb = w1.heap.size := ⟨_, rfl⟩
  rw [← hbb] at Bq hl1 Alt Jlt ⊢
  have hl2 : w.heap.size ≤ w2.heap.size := hw.size
  have Blt := Bq.lt
  have Alt2 := A.lt
  have Jlt2 := J.lt
  clear hb hbb
  have p0 := A.cell 0
  have p1 := A.cell 1
  have p2 := A.cell 2
  have p3 := A.cell 3
  have p4 := A.cell 4
  have p5 := A.cell 5
  have p6 := A.cell 6
  have p7 := A.cell 7
  have pz := A.lt
  simp at p0 p1 p2 p3 p4 p5 p6 p7
  have q0 := Bq.cell 0
  have q1 := Bq.cell 1
  have q2 := Bq.cell 2
  have q3 := Bq.cell 3
  have q4 := Bq.cell 4
  have q5 := Bq.cell 5
  have q6 := Bq.cell 6
  have q7 := Bq.cell 7
  have qz := Bq.lt
  simp at q0 q1 q2 q3 q4 q5 q6 q7
  go_wp2_with fail
  refine (linkedV k m l s t c i g by_ now K2 M2 L2 S2 T2 C2 I2 G2 E2 _ h0 h9 H2.out).mono ?_
  rintro e w3 ⟨rfl, hb⟩
  clear p0 p1 p2 p3 p4 p5 p6 p7 pz
  clear q0 q1 q2 q3 q4 q5 q6 q7 qz
  replace A := (A.alloc _).next hb
  replace J := (J.alloc _).next hb
  replace Bq := (Bq.alloc _).next hb
  have Cq := (RowAt.new w2 23 [.int .u8 K1, .int .i64 M1, .int .i64 L1, .int .i64 S1, .int .i64 T1, .int .i64 C1, .int .i64 I1, .int .i64 G1]).next hb
  replace hw := btA hw hb
  obtain ⟨bc, hbc⟩ : ∃ bc, bc = w2.heap.size := ⟨_, rfl⟩
  rw [← hbc] at Cq hl2 Alt2 Jlt2 Blt ⊢
  clear hb hbc
  have nab : ba ≠ bb := by omega
  have njb : bj ≠ bb := by omega
  have nac : ba ≠ bc := by omega
  have njc : bj ≠ bc := by omega
  have nbc : bb ≠ bc := by omega
  have ncb : bc ≠ bb := by omega
  clear Alt Jlt Blt Alt2 Jlt2
  have p0 := A.cell 0
  have p1 := A.cell 1
  have p2 := A.cell 2
  have p3 := A.cell 3
  have p4 := A.cell 4
  have p5 := A.cell 5
  have p6 := A.cell 6
  have p7 := A.cell 7
  simp at p0 p1 p2 p3 p4 p5 p6 p7
  have q0 := Bq.cell 0
  have q1 := Bq.cell 1
  have q2 := Bq.cell 2
  have q3 := Bq.cell 3
  have q4 := Bq.cell 4
  have q5 := Bq.cell 5
  have q6 := Bq.cell 6
  have q7 := Bq.cell 7
  have qf0 := Bq.free 0
  have qf1 := Bq.free 1
  have qf2 := Bq.free 2
  have qf3 := Bq.free 3
  have qf4 := Bq.free 4
  have qf5 := Bq.free 5
  have qf6 := Bq.free 6
  have qf7 := Bq.free 7
  simp at q0 q1 q2 q3 q4 q5 q6 q7
  go_wp2_with fail
  refine (linkedRV k m l s t c i g by_ now K2 M2 L2 S2 T2 C2 I2 G2 E2 _ h0 h9 H2.out).mono ?_
  rintro e w4 ⟨rfl, hb⟩
  clear p0 p1 p2 p3 p4 p5 p6 p7
  clear q0 q1 q2 q3 q4 q5 q6 q7 qf0 qf1 qf2 qf3 qf4 qf5 qf6 qf7
  replace A := (A.set8o nab (.int .u8 K2) (.int .i64 M2) (.int .i64 L2) (.int .i64 S2) (.int .i64 T2) (.int .i64 C2) (.int .i64 I2) (.int .i64 G2)).next hb
  replace J := (J.set8o njb (.int .u8 K2) (.int .i64 M2) (.int .i64 L2) (.int .i64 S2) (.int .i64 T2) (.int .i64 C2) (.int .i64 I2) (.int .i64 G2)).next hb
  replace Bq := (Bq.set8 (.int .u8 K2) (.int .i64 M2) (.int .i64 L2) (.int .i64 S2) (.int .i64 T2) (.int .i64 C2) (.int .i64 I2) (.int .i64 G2)).next hb
  replace Cq := (Cq.set8o ncb (.int .u8 K2) (.int .i64 M2) (.int .i64 L2) (.int .i64 S2) (.int .i64 T2) (.int .i64 C2) (.int .i64 I2) (.int .i64 G2)).next hb
  replace hw := bt (below_set8 hw hl1 (.int .u8 K2) (.int .i64 M2) (.int .i64 L2) (.int .i64 S2) (.int .i64 T2) (.int .i64 C2) (.int .i64 I2) (.int .i64 G2)) hb
  clear hb
  have p0 := A.cell 0
  have p1 := A.cell 1
  have p2 := A.cell 2
  have p3 := A.cell 3
  have p4 := A.cell 4
  have p5 := A.cell 5
  have p6 := A.cell 6
  have p7 := A.cell 7
  simp at p0 p1 p2 p3 p4 p5 p6 p7
  have q0 := Cq.cell 0
  have q1 := Cq.cell 1
  have q2 := Cq.cell 2
  have q3 := Cq.cell 3
  have q4 := Cq.cell 4
  have q5 := Cq.cell 5
  have q6 := Cq.cell 6
  have q7 := Cq.cell 7
  have qf0 := Cq.free 0
  have qf1 := Cq.free 1
  have qf2 := Cq.free 2
  have qf3 := Cq.free 3
  have qf4 := Cq.free 4
  have qf5 := Cq.free 5
  have qf6 := Cq.free 6
  have qf7 := Cq.free 7
  simp at q0 q1 q2 q3 q4 q5 q6 q7
  have r0 := Bq.cell 0
  have r1 := Bq.cell 1
  have r2 := Bq.cell 2
  have r3 := Bq.cell 3
  have r4 := Bq.cell 4
  have r5 := Bq.cell 5
  have r6 := Bq.cell 6
  have r7 := Bq.cell 7
  simp at r0 r1 r2 r3 r4 r5 r6 r7
  go_wp2_with fail
  refine (sizedV k m l s t c i g size now K3 M3 L3 S3 T3 C3 I3 G3 E3 _ H3.out).mono ?_
  rintro e w5 ⟨rfl, hb⟩
  clear p0 p1 p2 p3 p4 p5 p6 p7
  clear q0 q1 q2 q3 q4 q5 q6 q7 qf0 qf1 qf2 qf3 qf4 qf5 qf6 qf7
  clear r0 r1 r2 r3 r4 r5 r6 r7
  replace A := (A.set8o nac (.int .u8 K2) (.int .i64 M2) (.int .i64 L2) (.int .i64 S2) (.int .i64 T2) (.int .i64 C2) (.int .i64 I2) (.int .i64 G2)).next hb
  replace J := (J.set8o njc (.int .u8 K2) (.int .i64 M2) (.int .i64 L2) (.int .i64 S2) (.int .i64 T2) (.int .i64 C2) (.int .i64 I2) (.int .i64 G2)).next hb
  replace Cq := (Cq.set8 (.int .u8 K2) (.int .i64 M2) (.int .i64 L2) (.int .i64 S2) (.int .i64 T2) (.int .i64 C2) (.int .i64 I2) (.int .i64 G2)).next hb
  replace Bq := (Bq.set8o nbc (.int .u8 K2) (.int .i64 M2) (.int .i64 L2) (.int .i64 S2) (.int .i64 T2) (.int .i64 C2) (.int .i64 I2) (.int .i64 G2)).next hb
  replace hw := bt (below_set8 hw hl2 (.int .u8 K2) (.int .i64 M2) (.int .i64 L2) (.int .i64 S2) (.int .i64 T2) (.int .i64 C2) (.int .i64 I2) (.int .i64 G2)) hb
  clear hb
  have p0 := A.cell 0
  have p1 := A.cell 1
  have p2 := A.cell 2
  have p3 := A.cell 3
  have p4 := A.cell 4
  have p5 := A.cell 5
  have p6 := A.cell 6
  have p7 := A.cell 7
  simp at p0 p1 p2 p3 p4 p5 p6 p7
  have q0 := Bq.cell 0
  have q1 := Bq.cell 1
  have q2 := Bq.cell 2
  have q3 := Bq.cell 3
  have q4 := Bq.cell 4
  have q5 := Bq.cell 5
  have q6 := Bq.cell 6
  have q7 := Bq.cell 7
  have qf0 := Bq.free 0
  have qf1 := Bq.free 1
  have qf2 := Bq.free 2
  have qf3 := Bq.free 3
  have qf4 := Bq.free 4
  have qf5 := Bq.free 5
  have qf6 := Bq.free 6
  have qf7 := Bq.free 7
  simp at q0 q1 q2 q3 q4 q5 q6 q7
  go_wp2_with fail
  refine (sizedRV k m l s t c i g size now K3 M3 L3 S3 T3 C3 I3 G3 E3 _ H3.out).mono ?_
  rintro e w6 ⟨rfl, hb⟩
  clear p0 p1 p2 p3 p4 p5 p6 p7
  clear q0 q1 q2 q3 q4 q5 q6 q7 qf0 qf1 qf2 qf3 qf4 qf5 qf6 qf7
  replace A := (A.set8o nab (.int .u8 K3) (.int .i64 M3) (.int .i64 L3) (.int .i64 S3) (.int .i64 T3) (.int .i64 C3) (.int .i64 I3) (.int .i64 G3)).next hb
  replace J := (J.set8o njb (.int .u8 K3) (.int .i64 M3) (.int .i64 L3) (.int .i64 S3) (.int .i64 T3) (.int .i64 C3) (.int .i64 I3) (.int .i64 G3)).next hb
  replace Bq := (Bq.set8 (.int .u8 K3) (.int .i64 M3) (.int .i64 L3) (.int .i64 S3) (.int .i64 T3) (.int .i64 C3) (.int .i64 I3) (.int .i64 G3)).next hb
  replace Cq := (Cq.set8o ncb (.int .u8 K3) (.int .i64 M3) (.int .i64 L3) (.int .i64 S3) (.int .i64 T3) (.int .i64 C3) (.int .i64 I3) (.int .i64 G3)).next hb
  replace hw := bt (below_set8 hw hl1 (.int .u8 K3) (.int .i64 M3) (.int .i64 L3) (.int .i64 S3) (.int .i64 T3) (.int .i64 C3) (.int .i64 I3) (.int .i64 G3)) hb
  clear hb
  have p0 := A.cell 0
  have p1 := A.cell 1
  have p2 := A.cell 2
  have p3 := A.cell 3
  have p4 := A.cell 4
  have p5 := A.cell 5
  have p6 := A.cell 6
  have p7 := A.cell 7
  simp at p0 p1 p2 p3 p4 p5 p6 p7
  have q0 := Cq.cell 0
  have q1 := Cq.cell 1
  have q2 := Cq.cell 2
  have q3 := Cq.cell 3
  have q4 := Cq.cell 4
  have q5 := Cq.cell 5
  have q6 := Cq.cell 6
  have q7 := Cq.cell 7
  have qf0 := Cq.free 0
  have qf1 := Cq.free 1
  have qf2 := Cq.free 2
  have qf3 := Cq.free 3
  have qf4 := Cq.free 4
  have qf5 := Cq.free 5
  have qf6 := Cq.free 6
  have qf7 := Cq.free 7
  simp at q0 q1 q2 q3 q4 q5 q6 q7
  have r0 := Bq.cell 0
  have r1 := Bq.cell 1
  have r2 := Bq.cell 2
  have r3 := Bq.cell 3
  have r4 := Bq.cell 4
  have r5 := Bq.cell 5
  have r6 := Bq.cell 6
  have r7 := Bq.cell 7
  simp at r0 r1 r2 r3 r4 r5 r6 r7
  go_wp2_with fail
  refine (modedV k m l s t c i g mode now K4 M4 L4 S4 T4 C4 I4 G4 E4 _ H4.out).mono ?_
  rintro e w7 ⟨rfl, hb⟩
  clear p0 p1 p2 p3 p4 p5 p6 p7
  clear q0 q1 q2 q3 q4 q5 q6 q7 qf0 qf1 qf2 qf3 qf4 qf5 qf6 qf7
  clear r0 r1 r2 r3 r4 r5 r6 r7
  replace A := (A.set8o nac (.int .u8 K3) (.int .i64 M3) (.int .i64 L3) (.int .i64 S3) (.int .i64 T3) (.int .i64 C3) (.int .i64 I3) (.int .i64 G3)).next hb
  replace J := (J.set8o njc (.int .u8 K3) (.int .i64 M3) (.int .i64 L3) (.int .i64 S3) (.int .i64 T3) (.int .i64 C3) (.int .i64 I3) (.int .i64 G3)).next hb
  replace Cq := (Cq.set8 (.int .u8 K3) (.int .i64 M3) (.int .i64 L3) (.int .i64 S3) (.int .i64 T3) (.int .i64 C3) (.int .i64 I3) (.int .i64 G3)).next hb
  replace Bq := (Bq.set8o nbc (.int .u8 K3) (.int .i64 M3) (.int .i64 L3) (.int .i64 S3) (.int .i64 T3) (.int .i64 C3) (.int .i64 I3) (.int .i64 G3)).next hb
  replace hw := bt (below_set8 hw hl2 (.int .u8 K3) (.int .i64 M3) (.int .i64 L3) (.int .i64 S3) (.int .i64 T3) (.int .i64 C3) (.int .i64 I3) (.int .i64 G3)) hb
  clear hb
  have p0 := A.cell 0
  have p1 := A.cell 1
  have p2 := A.cell 2
  have p3 := A.cell 3
  have p4 := A.cell 4
  have p5 := A.cell 5
  have p6 := A.cell 6
  have p7 := A.cell 7
  simp at p0 p1 p2 p3 p4 p5 p6 p7
  have q0 := Bq.cell 0
  have q1 := Bq.cell 1
  have q2 := Bq.cell 2
  have q3 := Bq.cell 3
  have q4 := Bq.cell 4
  have q5 := Bq.cell 5
  have q6 := Bq.cell 6
  have q7 := Bq.cell 7
  have qf0 := Bq.free 0
  have qf1 := Bq.free 1
  have qf2 := Bq.free 2
  have qf3 := Bq.free 3
  have qf4 := Bq.free 4
  have qf5 := Bq.free 5
  have qf6 := Bq.free 6
  have qf7 := Bq.free 7
  simp at q0 q1 q2 q3 q4 q5 q6 q7
  go_wp2_with fail
  refine (modedRV k m l s t c i g mode now K4 M4 L4 S4 T4 C4 I4 G4 E4 _ H4.out).mono ?_
  rintro e w8 ⟨rfl, hb⟩
  clear p0 p1 p2 p3 p4 p5 p6 p7
  clear q0 q1 q2 q3 q4 q5 q6 q7 qf0 qf1 qf2 qf3 qf4 qf5 qf6 qf7
  replace A := (A.set8o nab (.int .u8 K4) (.int .i64 M4) (.int .i64 L4) (.int .i64 S4) (.int .i64 T4) (.int .i64 C4) (.int .i64 I4) (.int .i64 G4)).next hb
  replace J := (J.set8o njb (.int .u8 K4) (.int .i64 M4) (.int .i64 L4) (.int .i64 S4) (.int .i64 T4) (.int .i64 C4) (.int .i64 I4) (.int .i64 G4)).next hb
  replace Bq := (Bq.set8 (.int .u8 K4) (.int .i64 M4) (.int .i64 L4) (.int .i64 S4) (.int .i64 T4) (.int .i64 C4) (.int .i64 I4) (.int .i64 G4)).next hb
  replace Cq := (Cq.set8o ncb (.int .u8 K4) (.int .i64 M4) (.int .i64 L4) (.int .i64 S4) (.int .i64 T4) (.int .i64 C4) (.int .i64 I4) (.int .i64 G4)).next hb
  replace hw := bt (below_set8 hw hl1 (.int .u8 K4) (.int .i64 M4) (.int .i64 L4) (.int .i64 S4) (.int .i64 T4) (.int .i64 C4) (.int .i64 I4) (.int .i64 G4)) hb
  clear hb
  have p0 := A.cell 0
  have p1 := A.cell 1
  have p2 := A.cell 2
  have p3 := A.cell 3
  have p4 := A.cell 4
  have p5 := A.cell 5
  have p6 := A.cell 6
  have p7 := A.cell 7
  simp at p0 p1 p2 p3 p4 p5 p6 p7
  have q0 := Cq.cell 0
  have q1 := Cq.cell 1
  have q2 := Cq.cell 2
  have q3 := Cq.cell 3
  have q4 := Cq.cell 4
  have q5 := Cq.cell 5
  have q6 := Cq.cell 6
  have q7 := Cq.cell 7
  have qf0 := Cq.free 0
  have qf1 := Cq.free 1
  have qf2 := Cq.free 2
  have qf3 := Cq.free 3
  have qf4 := Cq.free 4
  have qf5 := Cq.free 5
  have qf6 := Cq.free 6
  have qf7 := Cq.free 7
  simp at q0 q1 q2 q3 q4 q5 q6 q7
  go_wp2_with fail
  clear p0 p1 p2 p3 p4 p5 p6 p7
  clear q0 q1 q2 q3 q4 q5 q6 q7 qf0 qf1 qf2 qf3 qf4 qf5 qf6 qf7
  replace A := A.set8o nac (.int .u8 K4) (.int .i64 M4) (.int .i64 L4) (.int .i64 S4) (.int .i64 T4) (.int .i64 C4) (.int .i64 I4) (.int .i64 G4)
  replace J := J.set8o njc (.int .u8 K4) (.int .i64 M4) (.int .i64 L4) (.int .i64 S4) (.int .i64 T4) (.int .i64 C4) (.int .i64 I4) (.int .i64 G4)
  replace Cq := Cq.set8 (.int .u8 K4) (.int .i64 M4) (.int .i64 L4) (.int .i64 S4) (.int .i64 T4) (.int .i64 C4) (.int .i64 I4) (.int .i64 G4)
  replace Bq := Bq.set8o nbc (.int .u8 K4) (.int .i64 M4) (.int .i64 L4) (.int .i64 S4) (.int .i64 T4) (.int .i64 C4) (.int .i64 I4) (.int .i64 G4)
  replace hw := below_set8 hw hl2 (.int .u8 K4) (.int .i64 M4) (.int .i64 L4) (.int .i64 S4) (.int .i64 T4) (.int .i64 C4) (.int .i64 I4) (.int .i64 G4)
  generalize hWe : World.setCell _ ⟨bc, 7, none⟩ _ = W at *
  clear hWe
  clear H1 H2 H3 H4
  rcases Bool.eq_false_or_eq_true (i == y) with hi | hi
  all_goals rcases Bool.eq_false_or_eq_true (g == z) with hg | hg
  all_goals (
    refine wp_region_bw W.heap.size (by kernel_rfl) (by kernel_rfl) ?_
    have p0 := fun x : Bw W.heap.size W => (A.next x.ok).cell 0
    have p1 := fun x : Bw W.heap.size W => (A.next x.ok).cell 1
    have p2 := fun x : Bw W.heap.size W => (A.next x.ok).cell 2
    have p3 := fun x : Bw W.heap.size W => (A.next x.ok).cell 3
    have p4 := fun x : Bw W.heap.size W => (A.next x.ok).cell 4
    have p5 := fun x : Bw W.heap.size W => (A.next x.ok).cell 5
    have p6 := fun x : Bw W.heap.size W => (A.next x.ok).cell 6
    have p7 := fun x : Bw W.heap.size W => (A.next x.ok).cell 7
    have q0 := fun x : Bw W.heap.size W => (Bq.next x.ok).cell 0
    have q1 := fun x : Bw W.heap.size W => (Bq.next x.ok).cell 1
    have q2 := fun x : Bw W.heap.size W => (Bq.next x.ok).cell 2
    have q3 := fun x : Bw W.heap.size W => (Bq.next x.ok).cell 3
    have q4 := fun x : Bw W.heap.size W => (Bq.next x.ok).cell 4
    have q5 := fun x : Bw W.heap.size W => (Bq.next x.ok).cell 5
    have q6 := fun x : Bw W.heap.size W => (Bq.next x.ok).cell 6
    have q7 := fun x : Bw W.heap.size W => (Bq.next x.ok).cell 7
    have r0 := fun x : Bw W.heap.size W => (Cq.next x.ok).cell 0
    have r1 := fun x : Bw W.heap.size W => (Cq.next x.ok).cell 1
    have r2 := fun x : Bw W.heap.size W => (Cq.next x.ok).cell 2
    have r3 := fun x : Bw W.heap.size W => (Cq.next x.ok).cell 3
    have r4 := fun x : Bw W.heap.size W => (Cq.next x.ok).cell 4
    have r5 := fun x : Bw W.heap.size W => (Cq.next x.ok).cell 5
    have r6 := fun x : Bw W.heap.size W => (Cq.next x.ok).cell 6
    have r7 := fun x : Bw W.heap.size W => (Cq.next x.ok).cell 7
    have j0 := fun x : Bw W.heap.size W => (J.next x.ok).cell 0
    have j1 := fun x : Bw W.heap.size W => (J.next x.ok).cell 1
    have j2 := fun x : Bw W.heap.size W => (J.next x.ok).cell 2
    simp at p0 p1 p2 p3 p4 p5 p6 p7 q0 q1 q2 q3 q4 q5 q6 q7 r0 r1 r2 r3 r4 r5 r6 r7 j0 j1 j2
    clear A J Bq Cq
    repeat (go_big_quiet_step (first | (go_at_call 16; exact Calls.bw (Nat.le_refl _) _ (handle_any _ _ _ _ _ _ _ _ _ _)) | (go_at_call 17; exact Calls.bw (Nat.le_refl _) _ (isV _ _ _ _ _ _ _ _ _ _ _ _ _ (by rw [hi, hg]))) | (go_at_call 18; exact Calls.bw (Nat.le_refl _) _ (awake_any _))))
    refine wpQuiet_nil ?_
    rintro w' ⟨x, rfl⟩
    go_wp2
    go_ret
    exact ⟨rfl, bt hw x.ok⟩)
theorem changes_any (k m l s t c i g kd mode by_ size now x y z : Int) (w : World) (h0 : -9223372036854775808 ≤ l) (h9 : l ≤ 9223372036854775807) :
    Calls Try.prog 3 #[.agg #[.int .u8 k, .int .i64 m, .int .i64 l, .int .i64 s, .int .i64 t, .int .i64 c, .int .i64 i, .int .i64 g], .int .u8 kd, .int .i64 mode, .int .i64 by_, .int .i64 size, .int .i64 now, .agg #[.int .i64 x, .int .i64 y, .int .i64 z]] w fun e w' => e = .returned (.bool true) ∧ Below w.heap.size w w' :=
  changes_raw k m l s t c i g kd mode by_ size now x y z _ _ _ _ _ _ _ _ _ _ _ _ _ _ _ _ _ _ _ _ _ _ _ _ _ _ _ _ _ _ _ _ _ _ _ _ w h0 h9 (Lib.hid rfl) (Lib.hid rfl) (Lib.hid rfl) (Lib.hid rfl)
end Go.Proofs.Ytochpjoanldfpaa
