/- InodeBack walked: true at every input. -/
import Derived.Test.YtochpjoanldfpaaLa
namespace Go.Proofs.Ytochpjoanldfpaa
open Go.RowKit
set_option linter.unusedVariables false

set_option maxHeartbeats 8000000 in
theorem back_1111 (k m l s t c i g gen boot K M L S T C I G X Y : Int) (sx tx : ByteArray) (r1 : List UInt8) (r3 : List UInt8) (w : World) (hs : (sx.size : Int) ≤ 1000) (ht : (tx.size : Int) ≤ 1000)
    (HM : Hid (mayF ⟨k, m, l, s, t, c, i, g⟩ = true))
    (H1 : Hid (encodeF ⟨k, m, l, s, t, c, i, g⟩ = (r1, 0)))
    (H1b : Hid (decodeF ⟨r1.toArray⟩ = (⟨k, m, l, s, t, c, i, g⟩, 0)))
    (H2 : Hid (decodeF sx = (⟨K, M, L, S, T, C, I, G⟩, 0)))
    (H2b : Hid (encodeF ⟨K, M, L, S, T, C, I, G⟩ = (sx.data.toList, 0)))
    (H3 : Hid (metF gen boot = (r3, 0)))
    (H3b : Hid (decMF ⟨r3.toArray⟩ = ((gen, boot), 0)))
    (H4 : Hid (decMF tx = ((X, Y), 0)))
    (H4b : Hid (metF X Y = (tx.data.toList, 0))) :
    Calls Try.prog 7 #[.agg #[.int .u8 k, .int .i64 m, .int .i64 l, .int .i64 s, .int .i64 t, .int .i64 c, .int .i64 i, .int .i64 g], .int .i64 gen, .int .i64 boot, .string sx, .string tx] w fun e w' => e = .returned (.bool true) ∧ Below w.heap.size w w' := by
  have hs2 : decide ((1000 : Int) < (sx.size : Int)) = false := by simp; omega
  have ht2 : decide ((1000 : Int) < (tx.size : Int)) = false := by simp; omega
  go_enter Try.func7, Try.ntmps7
  go_wp2_with fail
  refine (awake_any _).mono ?_
  rintro e w1 ⟨rfl, hb⟩
  have R := (RowAt.new w 23 [.int .u8 k, .int .i64 m, .int .i64 l, .int .i64 s, .int .i64 t, .int .i64 c, .int .i64 i, .int .i64 g]).next hb
  have hw := bt (b1 w _) hb
  clear hb
  obtain ⟨ba, hba⟩ : ∃ ba, ba = w.heap.size := ⟨_, rfl⟩
  rw [← hba] at R ⊢
  clear hba
  have p0 := R.cell 0
  have p1 := R.cell 1
  have p2 := R.cell 2
  have p3 := R.cell 3
  have p4 := R.cell 4
  have p5 := R.cell 5
  have p6 := R.cell 6
  have p7 := R.cell 7
  simp at p0 p1 p2 p3 p4 p5 p6 p7
  go_wp2_with fail
  refine (encodeV k m l s t c i g r1 0 _ H1.out).mono ?_
  rintro e w2 ⟨rfl, hb⟩
  clear p0 p1 p2 p3 p4 p5 p6 p7
  replace R := R.next hb
  replace hw := bt hw hb
  clear hb
  have p0 := R.cell 0
  have p1 := R.cell 1
  have p2 := R.cell 2
  have p3 := R.cell 3
  have p4 := R.cell 4
  have p5 := R.cell 5
  have p6 := R.cell 6
  have p7 := R.cell 7
  simp at p0 p1 p2 p3 p4 p5 p6 p7
  go_wp2_with fail
  refine (mayV _ _ _ _ _ _ _ _ true _ HM.out).mono ?_
  rintro e w3 ⟨rfl, hb⟩
  clear p0 p1 p2 p3 p4 p5 p6 p7
  replace R := R.next hb
  replace hw := bt hw hb
  clear hb
  go_wp2_with fail
  refine (decodeV _ k m l s t c i g 0 _ H1b.out).mono ?_
  rintro e w4 ⟨rfl, hb⟩
  replace R := R.next hb
  replace hw := bt hw hb
  clear hb
  have Rlt := R.lt
  have p0 := R.cell 0
  have p1 := R.cell 1
  have p2 := R.cell 2
  have p3 := R.cell 3
  have p4 := R.cell 4
  have p5 := R.cell 5
  have p6 := R.cell 6
  have p7 := R.cell 7
  simp at p0 p1 p2 p3 p4 p5 p6 p7
  go_wp2_with fail
  refine (decodeV _ K M L S T C I G 0 _ H2.out).mono ?_
  rintro e w5 ⟨rfl, hb⟩
  clear p0 p1 p2 p3 p4 p5 p6 p7
  clear Rlt
  replace R := (R.alloc _).next hb
  replace hw := btA hw hb
  clear hb
  go_wp2_with fail
  refine (encodeV K M L S T C I G sx.data.toList 0 _ H2b.out).mono ?_
  rintro e w6 ⟨rfl, hb⟩
  replace hw := btA hw hb
  clear hb R
  go_wp2_with fail
  refine (encMeta_any gen boot r3 0 _ H3.out).mono ?_
  rintro e w7 ⟨rfl, hb⟩
  have Q := (RowAt.new w6 43 [.int .i64 gen, .int .i64 boot]).next hb
  replace hw := btA hw hb
  clear hb
  go_wp2_with fail
  refine (decMeta_any _ gen boot 0 _ H3b.out).mono ?_
  rintro e w8 ⟨rfl, hb⟩
  replace Q := Q.next hb
  replace hw := bt hw hb
  clear hb
  have Qlt := Q.lt
  have q0 := Q.cell 0
  have q1 := Q.cell 1
  simp at q0 q1
  go_wp2_with fail
  refine (decMeta_any _ X Y 0 _ H4.out).mono ?_
  rintro e w9 ⟨rfl, hb⟩
  replace hw := btA hw hb
  clear hb
  clear q0 q1
  clear Qlt
  clear Q
  go_wp2_with fail
  refine (encMeta_any X Y tx.data.toList 0 _ H4b.out).mono ?_
  rintro e w10 ⟨rfl, hb⟩
  replace hw := btA hw hb
  go_wp2
  go_ret
  exact ⟨rfl, hw⟩

set_option maxHeartbeats 8000000 in
theorem back_1110 (k m l s t c i g gen boot K M L S T C I G : Int) (sx tx : ByteArray) (r1 : List UInt8) (r3 : List UInt8) (w : World) (hs : (sx.size : Int) ≤ 1000) (ht : (tx.size : Int) ≤ 1000)
    (HM : Hid (mayF ⟨k, m, l, s, t, c, i, g⟩ = true))
    (H1 : Hid (encodeF ⟨k, m, l, s, t, c, i, g⟩ = (r1, 0)))
    (H1b : Hid (decodeF ⟨r1.toArray⟩ = (⟨k, m, l, s, t, c, i, g⟩, 0)))
    (H2 : Hid (decodeF sx = (⟨K, M, L, S, T, C, I, G⟩, 0)))
    (H2b : Hid (encodeF ⟨K, M, L, S, T, C, I, G⟩ = (sx.data.toList, 0)))
    (H3 : Hid (metF gen boot = (r3, 0)))
    (H3b : Hid (decMF ⟨r3.toArray⟩ = ((gen, boot), 0)))
    (H4 : Hid (decMF tx = ((0, 0), 4))) :
    Calls Try.prog 7 #[.agg #[.int .u8 k, .int .i64 m, .int .i64 l, .int .i64 s, .int .i64 t, .int .i64 c, .int .i64 i, .int .i64 g], .int .i64 gen, .int .i64 boot, .string sx, .string tx] w fun e w' => e = .returned (.bool true) ∧ Below w.heap.size w w' := by
  have hs2 : decide ((1000 : Int) < (sx.size : Int)) = false := by simp; omega
  have ht2 : decide ((1000 : Int) < (tx.size : Int)) = false := by simp; omega
  go_enter Try.func7, Try.ntmps7
  go_wp2_with fail
  refine (awake_any _).mono ?_
  rintro e w1 ⟨rfl, hb⟩
  have R := (RowAt.new w 23 [.int .u8 k, .int .i64 m, .int .i64 l, .int .i64 s, .int .i64 t, .int .i64 c, .int .i64 i, .int .i64 g]).next hb
  have hw := bt (b1 w _) hb
  clear hb
  obtain ⟨ba, hba⟩ : ∃ ba, ba = w.heap.size := ⟨_, rfl⟩
  rw [← hba] at R ⊢
  clear hba
  have p0 := R.cell 0
  have p1 := R.cell 1
  have p2 := R.cell 2
  have p3 := R.cell 3
  have p4 := R.cell 4
  have p5 := R.cell 5
  have p6 := R.cell 6
  have p7 := R.cell 7
  simp at p0 p1 p2 p3 p4 p5 p6 p7
  go_wp2_with fail
  refine (encodeV k m l s t c i g r1 0 _ H1.out).mono ?_
  rintro e w2 ⟨rfl, hb⟩
  clear p0 p1 p2 p3 p4 p5 p6 p7
  replace R := R.next hb
  replace hw := bt hw hb
  clear hb
  have p0 := R.cell 0
  have p1 := R.cell 1
  have p2 := R.cell 2
  have p3 := R.cell 3
  have p4 := R.cell 4
  have p5 := R.cell 5
  have p6 := R.cell 6
  have p7 := R.cell 7
  simp at p0 p1 p2 p3 p4 p5 p6 p7
  go_wp2_with fail
  refine (mayV _ _ _ _ _ _ _ _ true _ HM.out).mono ?_
  rintro e w3 ⟨rfl, hb⟩
  clear p0 p1 p2 p3 p4 p5 p6 p7
  replace R := R.next hb
  replace hw := bt hw hb
  clear hb
  go_wp2_with fail
  refine (decodeV _ k m l s t c i g 0 _ H1b.out).mono ?_
  rintro e w4 ⟨rfl, hb⟩
  replace R := R.next hb
  replace hw := bt hw hb
  clear hb
  have Rlt := R.lt
  have p0 := R.cell 0
  have p1 := R.cell 1
  have p2 := R.cell 2
  have p3 := R.cell 3
  have p4 := R.cell 4
  have p5 := R.cell 5
  have p6 := R.cell 6
  have p7 := R.cell 7
  simp at p0 p1 p2 p3 p4 p5 p6 p7
  go_wp2_with fail
  refine (decodeV _ K M L S T C I G 0 _ H2.out).mono ?_
  rintro e w5 ⟨rfl, hb⟩
  clear p0 p1 p2 p3 p4 p5 p6 p7
  clear Rlt
  replace R := (R.alloc _).next hb
  replace hw := btA hw hb
  clear hb
  go_wp2_with fail
  refine (encodeV K M L S T C I G sx.data.toList 0 _ H2b.out).mono ?_
  rintro e w6 ⟨rfl, hb⟩
  replace hw := btA hw hb
  clear hb R
  go_wp2_with fail
  refine (encMeta_any gen boot r3 0 _ H3.out).mono ?_
  rintro e w7 ⟨rfl, hb⟩
  have Q := (RowAt.new w6 43 [.int .i64 gen, .int .i64 boot]).next hb
  replace hw := btA hw hb
  clear hb
  go_wp2_with fail
  refine (decMeta_any _ gen boot 0 _ H3b.out).mono ?_
  rintro e w8 ⟨rfl, hb⟩
  replace Q := Q.next hb
  replace hw := bt hw hb
  clear hb
  have Qlt := Q.lt
  have q0 := Q.cell 0
  have q1 := Q.cell 1
  simp at q0 q1
  go_wp2_with fail
  refine (decMeta_any _ 0 0 4 _ H4.out).mono ?_
  rintro e w9 ⟨rfl, hb⟩
  replace hw := btA hw hb
  clear hb
  clear q0 q1
  clear Qlt
  clear Q
  go_wp2
  go_ret
  exact ⟨rfl, bA hw _⟩

set_option maxHeartbeats 8000000 in
theorem back_1101 (k m l s t c i g gen boot K M L S T C I G X Y : Int) (sx tx : ByteArray) (r1 : List UInt8) (w : World) (hs : (sx.size : Int) ≤ 1000) (ht : (tx.size : Int) ≤ 1000)
    (HM : Hid (mayF ⟨k, m, l, s, t, c, i, g⟩ = true))
    (H1 : Hid (encodeF ⟨k, m, l, s, t, c, i, g⟩ = (r1, 0)))
    (H1b : Hid (decodeF ⟨r1.toArray⟩ = (⟨k, m, l, s, t, c, i, g⟩, 0)))
    (H2 : Hid (decodeF sx = (⟨K, M, L, S, T, C, I, G⟩, 0)))
    (H2b : Hid (encodeF ⟨K, M, L, S, T, C, I, G⟩ = (sx.data.toList, 0)))
    (H3 : Hid (metF gen boot = ([], 4)))
    (H4 : Hid (decMF tx = ((X, Y), 0)))
    (H4b : Hid (metF X Y = (tx.data.toList, 0))) :
    Calls Try.prog 7 #[.agg #[.int .u8 k, .int .i64 m, .int .i64 l, .int .i64 s, .int .i64 t, .int .i64 c, .int .i64 i, .int .i64 g], .int .i64 gen, .int .i64 boot, .string sx, .string tx] w fun e w' => e = .returned (.bool true) ∧ Below w.heap.size w w' := by
  have hs2 : decide ((1000 : Int) < (sx.size : Int)) = false := by simp; omega
  have ht2 : decide ((1000 : Int) < (tx.size : Int)) = false := by simp; omega
  go_enter Try.func7, Try.ntmps7
  go_wp2_with fail
  refine (awake_any _).mono ?_
  rintro e w1 ⟨rfl, hb⟩
  have R := (RowAt.new w 23 [.int .u8 k, .int .i64 m, .int .i64 l, .int .i64 s, .int .i64 t, .int .i64 c, .int .i64 i, .int .i64 g]).next hb
  have hw := bt (b1 w _) hb
  clear hb
  obtain ⟨ba, hba⟩ : ∃ ba, ba = w.heap.size := ⟨_, rfl⟩
  rw [← hba] at R ⊢
  clear hba
  have p0 := R.cell 0
  have p1 := R.cell 1
  have p2 := R.cell 2
  have p3 := R.cell 3
  have p4 := R.cell 4
  have p5 := R.cell 5
  have p6 := R.cell 6
  have p7 := R.cell 7
  simp at p0 p1 p2 p3 p4 p5 p6 p7
  go_wp2_with fail
  refine (encodeV k m l s t c i g r1 0 _ H1.out).mono ?_
  rintro e w2 ⟨rfl, hb⟩
  clear p0 p1 p2 p3 p4 p5 p6 p7
  replace R := R.next hb
  replace hw := bt hw hb
  clear hb
  have p0 := R.cell 0
  have p1 := R.cell 1
  have p2 := R.cell 2
  have p3 := R.cell 3
  have p4 := R.cell 4
  have p5 := R.cell 5
  have p6 := R.cell 6
  have p7 := R.cell 7
  simp at p0 p1 p2 p3 p4 p5 p6 p7
  go_wp2_with fail
  refine (mayV _ _ _ _ _ _ _ _ true _ HM.out).mono ?_
  rintro e w3 ⟨rfl, hb⟩
  clear p0 p1 p2 p3 p4 p5 p6 p7
  replace R := R.next hb
  replace hw := bt hw hb
  clear hb
  go_wp2_with fail
  refine (decodeV _ k m l s t c i g 0 _ H1b.out).mono ?_
  rintro e w4 ⟨rfl, hb⟩
  replace R := R.next hb
  replace hw := bt hw hb
  clear hb
  have Rlt := R.lt
  have p0 := R.cell 0
  have p1 := R.cell 1
  have p2 := R.cell 2
  have p3 := R.cell 3
  have p4 := R.cell 4
  have p5 := R.cell 5
  have p6 := R.cell 6
  have p7 := R.cell 7
  simp at p0 p1 p2 p3 p4 p5 p6 p7
  go_wp2_with fail
  refine (decodeV _ K M L S T C I G 0 _ H2.out).mono ?_
  rintro e w5 ⟨rfl, hb⟩
  clear p0 p1 p2 p3 p4 p5 p6 p7
  clear Rlt
  replace R := (R.alloc _).next hb
  replace hw := btA hw hb
  clear hb
  go_wp2_with fail
  refine (encodeV K M L S T C I G sx.data.toList 0 _ H2b.out).mono ?_
  rintro e w6 ⟨rfl, hb⟩
  replace hw := btA hw hb
  clear hb R
  go_wp2_with fail
  refine (encMeta_any gen boot [] 4 _ H3.out).mono ?_
  rintro e w7 ⟨rfl, hb⟩
  have Q := (RowAt.new w6 43 [.int .i64 gen, .int .i64 boot]).next hb
  replace hw := btA hw hb
  clear hb
  go_wp2_with fail
  refine (decMeta_any _ X Y 0 _ H4.out).mono ?_
  rintro e w9 ⟨rfl, hb⟩
  replace hw := bt hw hb
  clear hb
  clear Q
  go_wp2_with fail
  refine (encMeta_any X Y tx.data.toList 0 _ H4b.out).mono ?_
  rintro e w10 ⟨rfl, hb⟩
  replace hw := btA hw hb
  go_wp2
  go_ret
  exact ⟨rfl, hw⟩

set_option maxHeartbeats 8000000 in
theorem back_1100 (k m l s t c i g gen boot K M L S T C I G : Int) (sx tx : ByteArray) (r1 : List UInt8) (w : World) (hs : (sx.size : Int) ≤ 1000) (ht : (tx.size : Int) ≤ 1000)
    (HM : Hid (mayF ⟨k, m, l, s, t, c, i, g⟩ = true))
    (H1 : Hid (encodeF ⟨k, m, l, s, t, c, i, g⟩ = (r1, 0)))
    (H1b : Hid (decodeF ⟨r1.toArray⟩ = (⟨k, m, l, s, t, c, i, g⟩, 0)))
    (H2 : Hid (decodeF sx = (⟨K, M, L, S, T, C, I, G⟩, 0)))
    (H2b : Hid (encodeF ⟨K, M, L, S, T, C, I, G⟩ = (sx.data.toList, 0)))
    (H3 : Hid (metF gen boot = ([], 4)))
    (H4 : Hid (decMF tx = ((0, 0), 4))) :
    Calls Try.prog 7 #[.agg #[.int .u8 k, .int .i64 m, .int .i64 l, .int .i64 s, .int .i64 t, .int .i64 c, .int .i64 i, .int .i64 g], .int .i64 gen, .int .i64 boot, .string sx, .string tx] w fun e w' => e = .returned (.bool true) ∧ Below w.heap.size w w' := by
  have hs2 : decide ((1000 : Int) < (sx.size : Int)) = false := by simp; omega
  have ht2 : decide ((1000 : Int) < (tx.size : Int)) = false := by simp; omega
  go_enter Try.func7, Try.ntmps7
  go_wp2_with fail
  refine (awake_any _).mono ?_
  rintro e w1 ⟨rfl, hb⟩
  have R := (RowAt.new w 23 [.int .u8 k, .int .i64 m, .int .i64 l, .int .i64 s, .int .i64 t, .int .i64 c, .int .i64 i, .int .i64 g]).next hb
  have hw := bt (b1 w _) hb
  clear hb
  obtain ⟨ba, hba⟩ : ∃ ba, ba = w.heap.size := ⟨_, rfl⟩
  rw [← hba] at R ⊢
  clear hba
  have p0 := R.cell 0
  have p1 := R.cell 1
  have p2 := R.cell 2
  have p3 := R.cell 3
  have p4 := R.cell 4
  have p5 := R.cell 5
  have p6 := R.cell 6
  have p7 := R.cell 7
  simp at p0 p1 p2 p3 p4 p5 p6 p7
  go_wp2_with fail
  refine (encodeV k m l s t c i g r1 0 _ H1.out).mono ?_
  rintro e w2 ⟨rfl, hb⟩
  clear p0 p1 p2 p3 p4 p5 p6 p7
  replace R := R.next hb
  replace hw := bt hw hb
  clear hb
  have p0 := R.cell 0
  have p1 := R.cell 1
  have p2 := R.cell 2
  have p3 := R.cell 3
  have p4 := R.cell 4
  have p5 := R.cell 5
  have p6 := R.cell 6
  have p7 := R.cell 7
  simp at p0 p1 p2 p3 p4 p5 p6 p7
  go_wp2_with fail
  refine (mayV _ _ _ _ _ _ _ _ true _ HM.out).mono ?_
  rintro e w3 ⟨rfl, hb⟩
  clear p0 p1 p2 p3 p4 p5 p6 p7
  replace R := R.next hb
  replace hw := bt hw hb
  clear hb
  go_wp2_with fail
  refine (decodeV _ k m l s t c i g 0 _ H1b.out).mono ?_
  rintro e w4 ⟨rfl, hb⟩
  replace R := R.next hb
  replace hw := bt hw hb
  clear hb
  have Rlt := R.lt
  have p0 := R.cell 0
  have p1 := R.cell 1
  have p2 := R.cell 2
  have p3 := R.cell 3
  have p4 := R.cell 4
  have p5 := R.cell 5
  have p6 := R.cell 6
  have p7 := R.cell 7
  simp at p0 p1 p2 p3 p4 p5 p6 p7
  go_wp2_with fail
  refine (decodeV _ K M L S T C I G 0 _ H2.out).mono ?_
  rintro e w5 ⟨rfl, hb⟩
  clear p0 p1 p2 p3 p4 p5 p6 p7
  clear Rlt
  replace R := (R.alloc _).next hb
  replace hw := btA hw hb
  clear hb
  go_wp2_with fail
  refine (encodeV K M L S T C I G sx.data.toList 0 _ H2b.out).mono ?_
  rintro e w6 ⟨rfl, hb⟩
  replace hw := btA hw hb
  clear hb R
  go_wp2_with fail
  refine (encMeta_any gen boot [] 4 _ H3.out).mono ?_
  rintro e w7 ⟨rfl, hb⟩
  have Q := (RowAt.new w6 43 [.int .i64 gen, .int .i64 boot]).next hb
  replace hw := btA hw hb
  clear hb
  go_wp2_with fail
  refine (decMeta_any _ 0 0 4 _ H4.out).mono ?_
  rintro e w9 ⟨rfl, hb⟩
  replace hw := bt hw hb
  clear hb
  clear Q
  go_wp2
  go_ret
  exact ⟨rfl, bA hw _⟩

set_option maxHeartbeats 8000000 in
theorem back_1011 (k m l s t c i g gen boot X Y : Int) (sx tx : ByteArray) (r1 : List UInt8) (r3 : List UInt8) (w : World) (hs : (sx.size : Int) ≤ 1000) (ht : (tx.size : Int) ≤ 1000)
    (HM : Hid (mayF ⟨k, m, l, s, t, c, i, g⟩ = true))
    (H1 : Hid (encodeF ⟨k, m, l, s, t, c, i, g⟩ = (r1, 0)))
    (H1b : Hid (decodeF ⟨r1.toArray⟩ = (⟨k, m, l, s, t, c, i, g⟩, 0)))
    (H2 : Hid (decodeF sx = (⟨0, 0, 0, 0, 0, 0, 0, 0⟩, 4)))
    (H3 : Hid (metF gen boot = (r3, 0)))
    (H3b : Hid (decMF ⟨r3.toArray⟩ = ((gen, boot), 0)))
    (H4 : Hid (decMF tx = ((X, Y), 0)))
    (H4b : Hid (metF X Y = (tx.data.toList, 0))) :
    Calls Try.prog 7 #[.agg #[.int .u8 k, .int .i64 m, .int .i64 l, .int .i64 s, .int .i64 t, .int .i64 c, .int .i64 i, .int .i64 g], .int .i64 gen, .int .i64 boot, .string sx, .string tx] w fun e w' => e = .returned (.bool true) ∧ Below w.heap.size w w' := by
  have hs2 : decide ((1000 : Int) < (sx.size : Int)) = false := by simp; omega
  have ht2 : decide ((1000 : Int) < (tx.size : Int)) = false := by simp; omega
  go_enter Try.func7, Try.ntmps7
  go_wp2_with fail
  refine (awake_any _).mono ?_
  rintro e w1 ⟨rfl, hb⟩
  have R := (RowAt.new w 23 [.int .u8 k, .int .i64 m, .int .i64 l, .int .i64 s, .int .i64 t, .int .i64 c, .int .i64 i, .int .i64 g]).next hb
  have hw := bt (b1 w _) hb
  clear hb
  obtain ⟨ba, hba⟩ : ∃ ba, ba = w.heap.size := ⟨_, rfl⟩
  rw [← hba] at R ⊢
  clear hba
  have p0 := R.cell 0
  have p1 := R.cell 1
  have p2 := R.cell 2
  have p3 := R.cell 3
  have p4 := R.cell 4
  have p5 := R.cell 5
  have p6 := R.cell 6
  have p7 := R.cell 7
  simp at p0 p1 p2 p3 p4 p5 p6 p7
  go_wp2_with fail
  refine (encodeV k m l s t c i g r1 0 _ H1.out).mono ?_
  rintro e w2 ⟨rfl, hb⟩
  clear p0 p1 p2 p3 p4 p5 p6 p7
  replace R := R.next hb
  replace hw := bt hw hb
  clear hb
  have p0 := R.cell 0
  have p1 := R.cell 1
  have p2 := R.cell 2
  have p3 := R.cell 3
  have p4 := R.cell 4
  have p5 := R.cell 5
  have p6 := R.cell 6
  have p7 := R.cell 7
  simp at p0 p1 p2 p3 p4 p5 p6 p7
  go_wp2_with fail
  refine (mayV _ _ _ _ _ _ _ _ true _ HM.out).mono ?_
  rintro e w3 ⟨rfl, hb⟩
  clear p0 p1 p2 p3 p4 p5 p6 p7
  replace R := R.next hb
  replace hw := bt hw hb
  clear hb
  go_wp2_with fail
  refine (decodeV _ k m l s t c i g 0 _ H1b.out).mono ?_
  rintro e w4 ⟨rfl, hb⟩
  replace R := R.next hb
  replace hw := bt hw hb
  clear hb
  have Rlt := R.lt
  have p0 := R.cell 0
  have p1 := R.cell 1
  have p2 := R.cell 2
  have p3 := R.cell 3
  have p4 := R.cell 4
  have p5 := R.cell 5
  have p6 := R.cell 6
  have p7 := R.cell 7
  simp at p0 p1 p2 p3 p4 p5 p6 p7
  go_wp2_with fail
  refine (decodeV _ 0 0 0 0 0 0 0 0 4 _ H2.out).mono ?_
  rintro e w5 ⟨rfl, hb⟩
  clear p0 p1 p2 p3 p4 p5 p6 p7
  clear Rlt
  replace R := (R.alloc _).next hb
  replace hw := btA hw hb
  clear hb
  go_wp2_with fail
  refine (encMeta_any gen boot r3 0 _ H3.out).mono ?_
  rintro e w7 ⟨rfl, hb⟩
  have Q := (RowAt.new (w5.alloc (.cells #[.int .u8 0, .int .i64 0, .int .i64 0, .int .i64 0, .int .i64 0, .int .i64 0, .int .i64 0, .int .i64 0] 23)) 43 [.int .i64 gen, .int .i64 boot]).next hb
  simp only [World.size_alloc] at Q
  replace hw := bt (bA (bA hw _) _) hb
  clear hb
  go_wp2_with fail
  refine (decMeta_any _ gen boot 0 _ H3b.out).mono ?_
  rintro e w8 ⟨rfl, hb⟩
  replace Q := Q.next hb
  replace hw := bt hw hb
  clear hb
  have Qlt := Q.lt
  have q0 := Q.cell 0
  have q1 := Q.cell 1
  simp at q0 q1
  go_wp2_with fail
  refine (decMeta_any _ X Y 0 _ H4.out).mono ?_
  rintro e w9 ⟨rfl, hb⟩
  replace hw := btA hw hb
  clear hb
  clear q0 q1
  clear Qlt
  clear Q
  go_wp2_with fail
  refine (encMeta_any X Y tx.data.toList 0 _ H4b.out).mono ?_
  rintro e w10 ⟨rfl, hb⟩
  replace hw := btA hw hb
  go_wp2
  go_ret
  exact ⟨rfl, hw⟩

set_option maxHeartbeats 8000000 in
theorem back_1010 (k m l s t c i g gen boot : Int) (sx tx : ByteArray) (r1 : List UInt8) (r3 : List UInt8) (w : World) (hs : (sx.size : Int) ≤ 1000) (ht : (tx.size : Int) ≤ 1000)
    (HM : Hid (mayF ⟨k, m, l, s, t, c, i, g⟩ = true))
    (H1 : Hid (encodeF ⟨k, m, l, s, t, c, i, g⟩ = (r1, 0)))
    (H1b : Hid (decodeF ⟨r1.toArray⟩ = (⟨k, m, l, s, t, c, i, g⟩, 0)))
    (H2 : Hid (decodeF sx = (⟨0, 0, 0, 0, 0, 0, 0, 0⟩, 4)))
    (H3 : Hid (metF gen boot = (r3, 0)))
    (H3b : Hid (decMF ⟨r3.toArray⟩ = ((gen, boot), 0)))
    (H4 : Hid (decMF tx = ((0, 0), 4))) :
    Calls Try.prog 7 #[.agg #[.int .u8 k, .int .i64 m, .int .i64 l, .int .i64 s, .int .i64 t, .int .i64 c, .int .i64 i, .int .i64 g], .int .i64 gen, .int .i64 boot, .string sx, .string tx] w fun e w' => e = .returned (.bool true) ∧ Below w.heap.size w w' := by
  have hs2 : decide ((1000 : Int) < (sx.size : Int)) = false := by simp; omega
  have ht2 : decide ((1000 : Int) < (tx.size : Int)) = false := by simp; omega
  go_enter Try.func7, Try.ntmps7
  go_wp2_with fail
  refine (awake_any _).mono ?_
  rintro e w1 ⟨rfl, hb⟩
  have R := (RowAt.new w 23 [.int .u8 k, .int .i64 m, .int .i64 l, .int .i64 s, .int .i64 t, .int .i64 c, .int .i64 i, .int .i64 g]).next hb
  have hw := bt (b1 w _) hb
  clear hb
  obtain ⟨ba, hba⟩ : ∃ ba, ba = w.heap.size := ⟨_, rfl⟩
  rw [← hba] at R ⊢
  clear hba
  have p0 := R.cell 0
  have p1 := R.cell 1
  have p2 := R.cell 2
  have p3 := R.cell 3
  have p4 := R.cell 4
  have p5 := R.cell 5
  have p6 := R.cell 6
  have p7 := R.cell 7
  simp at p0 p1 p2 p3 p4 p5 p6 p7
  go_wp2_with fail
  refine (encodeV k m l s t c i g r1 0 _ H1.out).mono ?_
  rintro e w2 ⟨rfl, hb⟩
  clear p0 p1 p2 p3 p4 p5 p6 p7
  replace R := R.next hb
  replace hw := bt hw hb
  clear hb
  have p0 := R.cell 0
  have p1 := R.cell 1
  have p2 := R.cell 2
  have p3 := R.cell 3
  have p4 := R.cell 4
  have p5 := R.cell 5
  have p6 := R.cell 6
  have p7 := R.cell 7
  simp at p0 p1 p2 p3 p4 p5 p6 p7
  go_wp2_with fail
  refine (mayV _ _ _ _ _ _ _ _ true _ HM.out).mono ?_
  rintro e w3 ⟨rfl, hb⟩
  clear p0 p1 p2 p3 p4 p5 p6 p7
  replace R := R.next hb
  replace hw := bt hw hb
  clear hb
  go_wp2_with fail
  refine (decodeV _ k m l s t c i g 0 _ H1b.out).mono ?_
  rintro e w4 ⟨rfl, hb⟩
  replace R := R.next hb
  replace hw := bt hw hb
  clear hb
  have Rlt := R.lt
  have p0 := R.cell 0
  have p1 := R.cell 1
  have p2 := R.cell 2
  have p3 := R.cell 3
  have p4 := R.cell 4
  have p5 := R.cell 5
  have p6 := R.cell 6
  have p7 := R.cell 7
  simp at p0 p1 p2 p3 p4 p5 p6 p7
  go_wp2_with fail
  refine (decodeV _ 0 0 0 0 0 0 0 0 4 _ H2.out).mono ?_
  rintro e w5 ⟨rfl, hb⟩
  clear p0 p1 p2 p3 p4 p5 p6 p7
  clear Rlt
  replace R := (R.alloc _).next hb
  replace hw := btA hw hb
  clear hb
  go_wp2_with fail
  refine (encMeta_any gen boot r3 0 _ H3.out).mono ?_
  rintro e w7 ⟨rfl, hb⟩
  have Q := (RowAt.new (w5.alloc (.cells #[.int .u8 0, .int .i64 0, .int .i64 0, .int .i64 0, .int .i64 0, .int .i64 0, .int .i64 0, .int .i64 0] 23)) 43 [.int .i64 gen, .int .i64 boot]).next hb
  simp only [World.size_alloc] at Q
  replace hw := bt (bA (bA hw _) _) hb
  clear hb
  go_wp2_with fail
  refine (decMeta_any _ gen boot 0 _ H3b.out).mono ?_
  rintro e w8 ⟨rfl, hb⟩
  replace Q := Q.next hb
  replace hw := bt hw hb
  clear hb
  have Qlt := Q.lt
  have q0 := Q.cell 0
  have q1 := Q.cell 1
  simp at q0 q1
  go_wp2_with fail
  refine (decMeta_any _ 0 0 4 _ H4.out).mono ?_
  rintro e w9 ⟨rfl, hb⟩
  replace hw := btA hw hb
  clear hb
  clear q0 q1
  clear Qlt
  clear Q
  go_wp2
  go_ret
  exact ⟨rfl, bA hw _⟩

set_option maxHeartbeats 8000000 in
theorem back_1001 (k m l s t c i g gen boot X Y : Int) (sx tx : ByteArray) (r1 : List UInt8) (w : World) (hs : (sx.size : Int) ≤ 1000) (ht : (tx.size : Int) ≤ 1000)
    (HM : Hid (mayF ⟨k, m, l, s, t, c, i, g⟩ = true))
    (H1 : Hid (encodeF ⟨k, m, l, s, t, c, i, g⟩ = (r1, 0)))
    (H1b : Hid (decodeF ⟨r1.toArray⟩ = (⟨k, m, l, s, t, c, i, g⟩, 0)))
    (H2 : Hid (decodeF sx = (⟨0, 0, 0, 0, 0, 0, 0, 0⟩, 4)))
    (H3 : Hid (metF gen boot = ([], 4)))
    (H4 : Hid (decMF tx = ((X, Y), 0)))
    (H4b : Hid (metF X Y = (tx.data.toList, 0))) :
    Calls Try.prog 7 #[.agg #[.int .u8 k, .int .i64 m, .int .i64 l, .int .i64 s, .int .i64 t, .int .i64 c, .int .i64 i, .int .i64 g], .int .i64 gen, .int .i64 boot, .string sx, .string tx] w fun e w' => e = .returned (.bool true) ∧ Below w.heap.size w w' := by
  have hs2 : decide ((1000 : Int) < (sx.size : Int)) = false := by simp; omega
  have ht2 : decide ((1000 : Int) < (tx.size : Int)) = false := by simp; omega
  go_enter Try.func7, Try.ntmps7
  go_wp2_with fail
  refine (awake_any _).mono ?_
  rintro e w1 ⟨rfl, hb⟩
  have R := (RowAt.new w 23 [.int .u8 k, .int .i64 m, .int .i64 l, .int .i64 s, .int .i64 t, .int .i64 c, .int .i64 i, .int .i64 g]).next hb
  have hw := bt (b1 w _) hb
  clear hb
  obtain ⟨ba, hba⟩ : ∃ ba, ba = w.heap.size := ⟨_, rfl⟩
  rw [← hba] at R ⊢
  clear hba
  have p0 := R.cell 0
  have p1 := R.cell 1
  have p2 := R.cell 2
  have p3 := R.cell 3
  have p4 := R.cell 4
  have p5 := R.cell 5
  have p6 := R.cell 6
  have p7 := R.cell 7
  simp at p0 p1 p2 p3 p4 p5 p6 p7
  go_wp2_with fail
  refine (encodeV k m l s t c i g r1 0 _ H1.out).mono ?_
  rintro e w2 ⟨rfl, hb⟩
  clear p0 p1 p2 p3 p4 p5 p6 p7
  replace R := R.next hb
  replace hw := bt hw hb
  clear hb
  have p0 := R.cell 0
  have p1 := R.cell 1
  have p2 := R.cell 2
  have p3 := R.cell 3
  have p4 := R.cell 4
  have p5 := R.cell 5
  have p6 := R.cell 6
  have p7 := R.cell 7
  simp at p0 p1 p2 p3 p4 p5 p6 p7
  go_wp2_with fail
  refine (mayV _ _ _ _ _ _ _ _ true _ HM.out).mono ?_
  rintro e w3 ⟨rfl, hb⟩
  clear p0 p1 p2 p3 p4 p5 p6 p7
  replace R := R.next hb
  replace hw := bt hw hb
  clear hb
  go_wp2_with fail
  refine (decodeV _ k m l s t c i g 0 _ H1b.out).mono ?_
  rintro e w4 ⟨rfl, hb⟩
  replace R := R.next hb
  replace hw := bt hw hb
  clear hb
  have Rlt := R.lt
  have p0 := R.cell 0
  have p1 := R.cell 1
  have p2 := R.cell 2
  have p3 := R.cell 3
  have p4 := R.cell 4
  have p5 := R.cell 5
  have p6 := R.cell 6
  have p7 := R.cell 7
  simp at p0 p1 p2 p3 p4 p5 p6 p7
  go_wp2_with fail
  refine (decodeV _ 0 0 0 0 0 0 0 0 4 _ H2.out).mono ?_
  rintro e w5 ⟨rfl, hb⟩
  clear p0 p1 p2 p3 p4 p5 p6 p7
  clear Rlt
  replace R := (R.alloc _).next hb
  replace hw := btA hw hb
  clear hb
  go_wp2_with fail
  refine (encMeta_any gen boot [] 4 _ H3.out).mono ?_
  rintro e w7 ⟨rfl, hb⟩
  have Q := (RowAt.new (w5.alloc (.cells #[.int .u8 0, .int .i64 0, .int .i64 0, .int .i64 0, .int .i64 0, .int .i64 0, .int .i64 0, .int .i64 0] 23)) 43 [.int .i64 gen, .int .i64 boot]).next hb
  simp only [World.size_alloc] at Q
  replace hw := bt (bA (bA hw _) _) hb
  clear hb
  go_wp2_with fail
  refine (decMeta_any _ X Y 0 _ H4.out).mono ?_
  rintro e w9 ⟨rfl, hb⟩
  replace hw := bt hw hb
  clear hb
  clear Q
  go_wp2_with fail
  refine (encMeta_any X Y tx.data.toList 0 _ H4b.out).mono ?_
  rintro e w10 ⟨rfl, hb⟩
  replace hw := btA hw hb
  go_wp2
  go_ret
  exact ⟨rfl, hw⟩

set_option maxHeartbeats 8000000 in
theorem back_1000 (k m l s t c i g gen boot : Int) (sx tx : ByteArray) (r1 : List UInt8) (w : World) (hs : (sx.size : Int) ≤ 1000) (ht : (tx.size : Int) ≤ 1000)
    (HM : Hid (mayF ⟨k, m, l, s, t, c, i, g⟩ = true))
    (H1 : Hid (encodeF ⟨k, m, l, s, t, c, i, g⟩ = (r1, 0)))
    (H1b : Hid (decodeF ⟨r1.toArray⟩ = (⟨k, m, l, s, t, c, i, g⟩, 0)))
    (H2 : Hid (decodeF sx = (⟨0, 0, 0, 0, 0, 0, 0, 0⟩, 4)))
    (H3 : Hid (metF gen boot = ([], 4)))
    (H4 : Hid (decMF tx = ((0, 0), 4))) :
    Calls Try.prog 7 #[.agg #[.int .u8 k, .int .i64 m, .int .i64 l, .int .i64 s, .int .i64 t, .int .i64 c, .int .i64 i, .int .i64 g], .int .i64 gen, .int .i64 boot, .string sx, .string tx] w fun e w' => e = .returned (.bool true) ∧ Below w.heap.size w w' := by
  have hs2 : decide ((1000 : Int) < (sx.size : Int)) = false := by simp; omega
  have ht2 : decide ((1000 : Int) < (tx.size : Int)) = false := by simp; omega
  go_enter Try.func7, Try.ntmps7
  go_wp2_with fail
  refine (awake_any _).mono ?_
  rintro e w1 ⟨rfl, hb⟩
  have R := (RowAt.new w 23 [.int .u8 k, .int .i64 m, .int .i64 l, .int .i64 s, .int .i64 t, .int .i64 c, .int .i64 i, .int .i64 g]).next hb
  have hw := bt (b1 w _) hb
  clear hb
  obtain ⟨ba, hba⟩ : ∃ ba, ba = w.heap.size := ⟨_, rfl⟩
  rw [← hba] at R ⊢
  clear hba
  have p0 := R.cell 0
  have p1 := R.cell 1
  have p2 := R.cell 2
  have p3 := R.cell 3
  have p4 := R.cell 4
  have p5 := R.cell 5
  have p6 := R.cell 6
  have p7 := R.cell 7
  simp at p0 p1 p2 p3 p4 p5 p6 p7
  go_wp2_with fail
  refine (encodeV k m l s t c i g r1 0 _ H1.out).mono ?_
  rintro e w2 ⟨rfl, hb⟩
  clear p0 p1 p2 p3 p4 p5 p6 p7
  replace R := R.next hb
  replace hw := bt hw hb
  clear hb
  have p0 := R.cell 0
  have p1 := R.cell 1
  have p2 := R.cell 2
  have p3 := R.cell 3
  have p4 := R.cell 4
  have p5 := R.cell 5
  have p6 := R.cell 6
  have p7 := R.cell 7
  simp at p0 p1 p2 p3 p4 p5 p6 p7
  go_wp2_with fail
  refine (mayV _ _ _ _ _ _ _ _ true _ HM.out).mono ?_
  rintro e w3 ⟨rfl, hb⟩
  clear p0 p1 p2 p3 p4 p5 p6 p7
  replace R := R.next hb
  replace hw := bt hw hb
  clear hb
  go_wp2_with fail
  refine (decodeV _ k m l s t c i g 0 _ H1b.out).mono ?_
  rintro e w4 ⟨rfl, hb⟩
  replace R := R.next hb
  replace hw := bt hw hb
  clear hb
  have Rlt := R.lt
  have p0 := R.cell 0
  have p1 := R.cell 1
  have p2 := R.cell 2
  have p3 := R.cell 3
  have p4 := R.cell 4
  have p5 := R.cell 5
  have p6 := R.cell 6
  have p7 := R.cell 7
  simp at p0 p1 p2 p3 p4 p5 p6 p7
  go_wp2_with fail
  refine (decodeV _ 0 0 0 0 0 0 0 0 4 _ H2.out).mono ?_
  rintro e w5 ⟨rfl, hb⟩
  clear p0 p1 p2 p3 p4 p5 p6 p7
  clear Rlt
  replace R := (R.alloc _).next hb
  replace hw := btA hw hb
  clear hb
  go_wp2_with fail
  refine (encMeta_any gen boot [] 4 _ H3.out).mono ?_
  rintro e w7 ⟨rfl, hb⟩
  have Q := (RowAt.new (w5.alloc (.cells #[.int .u8 0, .int .i64 0, .int .i64 0, .int .i64 0, .int .i64 0, .int .i64 0, .int .i64 0, .int .i64 0] 23)) 43 [.int .i64 gen, .int .i64 boot]).next hb
  simp only [World.size_alloc] at Q
  replace hw := bt (bA (bA hw _) _) hb
  clear hb
  go_wp2_with fail
  refine (decMeta_any _ 0 0 4 _ H4.out).mono ?_
  rintro e w9 ⟨rfl, hb⟩
  replace hw := bt hw hb
  clear hb
  clear Q
  go_wp2
  go_ret
  exact ⟨rfl, bA hw _⟩

set_option maxHeartbeats 8000000 in
theorem back_0111 (k m l s t c i g gen boot K M L S T C I G X Y : Int) (sx tx : ByteArray) (r3 : List UInt8) (w : World) (hs : (sx.size : Int) ≤ 1000) (ht : (tx.size : Int) ≤ 1000)
    (HM : Hid (mayF ⟨k, m, l, s, t, c, i, g⟩ = false))
    (H1 : Hid (encodeF ⟨k, m, l, s, t, c, i, g⟩ = ([], 4)))
    (H2 : Hid (decodeF sx = (⟨K, M, L, S, T, C, I, G⟩, 0)))
    (H2b : Hid (encodeF ⟨K, M, L, S, T, C, I, G⟩ = (sx.data.toList, 0)))
    (H3 : Hid (metF gen boot = (r3, 0)))
    (H3b : Hid (decMF ⟨r3.toArray⟩ = ((gen, boot), 0)))
    (H4 : Hid (decMF tx = ((X, Y), 0)))
    (H4b : Hid (metF X Y = (tx.data.toList, 0))) :
    Calls Try.prog 7 #[.agg #[.int .u8 k, .int .i64 m, .int .i64 l, .int .i64 s, .int .i64 t, .int .i64 c, .int .i64 i, .int .i64 g], .int .i64 gen, .int .i64 boot, .string sx, .string tx] w fun e w' => e = .returned (.bool true) ∧ Below w.heap.size w w' := by
  have hs2 : decide ((1000 : Int) < (sx.size : Int)) = false := by simp; omega
  have ht2 : decide ((1000 : Int) < (tx.size : Int)) = false := by simp; omega
  go_enter Try.func7, Try.ntmps7
  go_wp2_with fail
  refine (awake_any _).mono ?_
  rintro e w1 ⟨rfl, hb⟩
  have R := (RowAt.new w 23 [.int .u8 k, .int .i64 m, .int .i64 l, .int .i64 s, .int .i64 t, .int .i64 c, .int .i64 i, .int .i64 g]).next hb
  have hw := bt (b1 w _) hb
  clear hb
  obtain ⟨ba, hba⟩ : ∃ ba, ba = w.heap.size := ⟨_, rfl⟩
  rw [← hba] at R ⊢
  clear hba
  have p0 := R.cell 0
  have p1 := R.cell 1
  have p2 := R.cell 2
  have p3 := R.cell 3
  have p4 := R.cell 4
  have p5 := R.cell 5
  have p6 := R.cell 6
  have p7 := R.cell 7
  simp at p0 p1 p2 p3 p4 p5 p6 p7
  go_wp2_with fail
  refine (encodeV k m l s t c i g [] 4 _ H1.out).mono ?_
  rintro e w2 ⟨rfl, hb⟩
  clear p0 p1 p2 p3 p4 p5 p6 p7
  replace R := R.next hb
  replace hw := bt hw hb
  clear hb
  have p0 := R.cell 0
  have p1 := R.cell 1
  have p2 := R.cell 2
  have p3 := R.cell 3
  have p4 := R.cell 4
  have p5 := R.cell 5
  have p6 := R.cell 6
  have p7 := R.cell 7
  simp at p0 p1 p2 p3 p4 p5 p6 p7
  go_wp2_with fail
  refine (mayV _ _ _ _ _ _ _ _ false _ HM.out).mono ?_
  rintro e w3 ⟨rfl, hb⟩
  clear p0 p1 p2 p3 p4 p5 p6 p7
  replace R := R.next hb
  replace hw := bt hw hb
  clear hb
  go_wp2_with fail
  refine (decodeV _ K M L S T C I G 0 _ H2.out).mono ?_
  rintro e w5 ⟨rfl, hb⟩
  replace R := R.next hb
  replace hw := bt hw hb
  clear hb
  go_wp2_with fail
  refine (encodeV K M L S T C I G sx.data.toList 0 _ H2b.out).mono ?_
  rintro e w6 ⟨rfl, hb⟩
  replace hw := btA hw hb
  clear hb R
  go_wp2_with fail
  refine (encMeta_any gen boot r3 0 _ H3.out).mono ?_
  rintro e w7 ⟨rfl, hb⟩
  have Q := (RowAt.new w6 43 [.int .i64 gen, .int .i64 boot]).next hb
  replace hw := btA hw hb
  clear hb
  go_wp2_with fail
  refine (decMeta_any _ gen boot 0 _ H3b.out).mono ?_
  rintro e w8 ⟨rfl, hb⟩
  replace Q := Q.next hb
  replace hw := bt hw hb
  clear hb
  have Qlt := Q.lt
  have q0 := Q.cell 0
  have q1 := Q.cell 1
  simp at q0 q1
  go_wp2_with fail
  refine (decMeta_any _ X Y 0 _ H4.out).mono ?_
  rintro e w9 ⟨rfl, hb⟩
  replace hw := btA hw hb
  clear hb
  clear q0 q1
  clear Qlt
  clear Q
  go_wp2_with fail
  refine (encMeta_any X Y tx.data.toList 0 _ H4b.out).mono ?_
  rintro e w10 ⟨rfl, hb⟩
  replace hw := btA hw hb
  go_wp2
  go_ret
  exact ⟨rfl, hw⟩

set_option maxHeartbeats 8000000 in
theorem back_0110 (k m l s t c i g gen boot K M L S T C I G : Int) (sx tx : ByteArray) (r3 : List UInt8) (w : World) (hs : (sx.size : Int) ≤ 1000) (ht : (tx.size : Int) ≤ 1000)
    (HM : Hid (mayF ⟨k, m, l, s, t, c, i, g⟩ = false))
    (H1 : Hid (encodeF ⟨k, m, l, s, t, c, i, g⟩ = ([], 4)))
    (H2 : Hid (decodeF sx = (⟨K, M, L, S, T, C, I, G⟩, 0)))
    (H2b : Hid (encodeF ⟨K, M, L, S, T, C, I, G⟩ = (sx.data.toList, 0)))
    (H3 : Hid (metF gen boot = (r3, 0)))
    (H3b : Hid (decMF ⟨r3.toArray⟩ = ((gen, boot), 0)))
    (H4 : Hid (decMF tx = ((0, 0), 4))) :
    Calls Try.prog 7 #[.agg #[.int .u8 k, .int .i64 m, .int .i64 l, .int .i64 s, .int .i64 t, .int .i64 c, .int .i64 i, .int .i64 g], .int .i64 gen, .int .i64 boot, .string sx, .string tx] w fun e w' => e = .returned (.bool true) ∧ Below w.heap.size w w' := by
  have hs2 : decide ((1000 : Int) < (sx.size : Int)) = false := by simp; omega
  have ht2 : decide ((1000 : Int) < (tx.size : Int)) = false := by simp; omega
  go_enter Try.func7, Try.ntmps7
  go_wp2_with fail
  refine (awake_any _).mono ?_
  rintro e w1 ⟨rfl, hb⟩
  have R := (RowAt.new w 23 [.int .u8 k, .int .i64 m, .int .i64 l, .int .i64 s, .int .i64 t, .int .i64 c, .int .i64 i, .int .i64 g]).next hb
  have hw := bt (b1 w _) hb
  clear hb
  obtain ⟨ba, hba⟩ : ∃ ba, ba = w.heap.size := ⟨_, rfl⟩
  rw [← hba] at R ⊢
  clear hba
  have p0 := R.cell 0
  have p1 := R.cell 1
  have p2 := R.cell 2
  have p3 := R.cell 3
  have p4 := R.cell 4
  have p5 := R.cell 5
  have p6 := R.cell 6
  have p7 := R.cell 7
  simp at p0 p1 p2 p3 p4 p5 p6 p7
  go_wp2_with fail
  refine (encodeV k m l s t c i g [] 4 _ H1.out).mono ?_
  rintro e w2 ⟨rfl, hb⟩
  clear p0 p1 p2 p3 p4 p5 p6 p7
  replace R := R.next hb
  replace hw := bt hw hb
  clear hb
  have p0 := R.cell 0
  have p1 := R.cell 1
  have p2 := R.cell 2
  have p3 := R.cell 3
  have p4 := R.cell 4
  have p5 := R.cell 5
  have p6 := R.cell 6
  have p7 := R.cell 7
  simp at p0 p1 p2 p3 p4 p5 p6 p7
  go_wp2_with fail
  refine (mayV _ _ _ _ _ _ _ _ false _ HM.out).mono ?_
  rintro e w3 ⟨rfl, hb⟩
  clear p0 p1 p2 p3 p4 p5 p6 p7
  replace R := R.next hb
  replace hw := bt hw hb
  clear hb
  go_wp2_with fail
  refine (decodeV _ K M L S T C I G 0 _ H2.out).mono ?_
  rintro e w5 ⟨rfl, hb⟩
  replace R := R.next hb
  replace hw := bt hw hb
  clear hb
  go_wp2_with fail
  refine (encodeV K M L S T C I G sx.data.toList 0 _ H2b.out).mono ?_
  rintro e w6 ⟨rfl, hb⟩
  replace hw := btA hw hb
  clear hb R
  go_wp2_with fail
  refine (encMeta_any gen boot r3 0 _ H3.out).mono ?_
  rintro e w7 ⟨rfl, hb⟩
  have Q := (RowAt.new w6 43 [.int .i64 gen, .int .i64 boot]).next hb
  replace hw := btA hw hb
  clear hb
  go_wp2_with fail
  refine (decMeta_any _ gen boot 0 _ H3b.out).mono ?_
  rintro e w8 ⟨rfl, hb⟩
  replace Q := Q.next hb
  replace hw := bt hw hb
  clear hb
  have Qlt := Q.lt
  have q0 := Q.cell 0
  have q1 := Q.cell 1
  simp at q0 q1
  go_wp2_with fail
  refine (decMeta_any _ 0 0 4 _ H4.out).mono ?_
  rintro e w9 ⟨rfl, hb⟩
  replace hw := btA hw hb
  clear hb
  clear q0 q1
  clear Qlt
  clear Q
  go_wp2
  go_ret
  exact ⟨rfl, bA hw _⟩

set_option maxHeartbeats 8000000 in
theorem back_0101 (k m l s t c i g gen boot K M L S T C I G X Y : Int) (sx tx : ByteArray) (w : World) (hs : (sx.size : Int) ≤ 1000) (ht : (tx.size : Int) ≤ 1000)
    (HM : Hid (mayF ⟨k, m, l, s, t, c, i, g⟩ = false))
    (H1 : Hid (encodeF ⟨k, m, l, s, t, c, i, g⟩ = ([], 4)))
    (H2 : Hid (decodeF sx = (⟨K, M, L, S, T, C, I, G⟩, 0)))
    (H2b : Hid (encodeF ⟨K, M, L, S, T, C, I, G⟩ = (sx.data.toList, 0)))
    (H3 : Hid (metF gen boot = ([], 4)))
    (H4 : Hid (decMF tx = ((X, Y), 0)))
    (H4b : Hid (metF X Y = (tx.data.toList, 0))) :
    Calls Try.prog 7 #[.agg #[.int .u8 k, .int .i64 m, .int .i64 l, .int .i64 s, .int .i64 t, .int .i64 c, .int .i64 i, .int .i64 g], .int .i64 gen, .int .i64 boot, .string sx, .string tx] w fun e w' => e = .returned (.bool true) ∧ Below w.heap.size w w' := by
  have hs2 : decide ((1000 : Int) < (sx.size : Int)) = false := by simp; omega
  have ht2 : decide ((1000 : Int) < (tx.size : Int)) = false := by simp; omega
  go_enter Try.func7, Try.ntmps7
  go_wp2_with fail
  refine (awake_any _).mono ?_
  rintro e w1 ⟨rfl, hb⟩
  have R := (RowAt.new w 23 [.int .u8 k, .int .i64 m, .int .i64 l, .int .i64 s, .int .i64 t, .int .i64 c, .int .i64 i, .int .i64 g]).next hb
  have hw := bt (b1 w _) hb
  clear hb
  obtain ⟨ba, hba⟩ : ∃ ba, ba = w.heap.size := ⟨_, rfl⟩
  rw [← hba] at R ⊢
  clear hba
  have p0 := R.cell 0
  have p1 := R.cell 1
  have p2 := R.cell 2
  have p3 := R.cell 3
  have p4 := R.cell 4
  have p5 := R.cell 5
  have p6 := R.cell 6
  have p7 := R.cell 7
  simp at p0 p1 p2 p3 p4 p5 p6 p7
  go_wp2_with fail
  refine (encodeV k m l s t c i g [] 4 _ H1.out).mono ?_
  rintro e w2 ⟨rfl, hb⟩
  clear p0 p1 p2 p3 p4 p5 p6 p7
  replace R := R.next hb
  replace hw := bt hw hb
  clear hb
  have p0 := R.cell 0
  have p1 := R.cell 1
  have p2 := R.cell 2
  have p3 := R.cell 3
  have p4 := R.cell 4
  have p5 := R.cell 5
  have p6 := R.cell 6
  have p7 := R.cell 7
  simp at p0 p1 p2 p3 p4 p5 p6 p7
  go_wp2_with fail
  refine (mayV _ _ _ _ _ _ _ _ false _ HM.out).mono ?_
  rintro e w3 ⟨rfl, hb⟩
  clear p0 p1 p2 p3 p4 p5 p6 p7
  replace R := R.next hb
  replace hw := bt hw hb
  clear hb
  go_wp2_with fail
  refine (decodeV _ K M L S T C I G 0 _ H2.out).mono ?_
  rintro e w5 ⟨rfl, hb⟩
  replace R := R.next hb
  replace hw := bt hw hb
  clear hb
  go_wp2_with fail
  refine (encodeV K M L S T C I G sx.data.toList 0 _ H2b.out).mono ?_
  rintro e w6 ⟨rfl, hb⟩
  replace hw := btA hw hb
  clear hb R
  go_wp2_with fail
  refine (encMeta_any gen boot [] 4 _ H3.out).mono ?_
  rintro e w7 ⟨rfl, hb⟩
  have Q := (RowAt.new w6 43 [.int .i64 gen, .int .i64 boot]).next hb
  replace hw := btA hw hb
  clear hb
  go_wp2_with fail
  refine (decMeta_any _ X Y 0 _ H4.out).mono ?_
  rintro e w9 ⟨rfl, hb⟩
  replace hw := bt hw hb
  clear hb
  clear Q
  go_wp2_with fail
  refine (encMeta_any X Y tx.data.toList 0 _ H4b.out).mono ?_
  rintro e w10 ⟨rfl, hb⟩
  replace hw := btA hw hb
  go_wp2
  go_ret
  exact ⟨rfl, hw⟩

set_option maxHeartbeats 8000000 in
theorem back_0100 (k m l s t c i g gen boot K M L S T C I G : Int) (sx tx : ByteArray) (w : World) (hs : (sx.size : Int) ≤ 1000) (ht : (tx.size : Int) ≤ 1000)
    (HM : Hid (mayF ⟨k, m, l, s, t, c, i, g⟩ = false))
    (H1 : Hid (encodeF ⟨k, m, l, s, t, c, i, g⟩ = ([], 4)))
    (H2 : Hid (decodeF sx = (⟨K, M, L, S, T, C, I, G⟩, 0)))
    (H2b : Hid (encodeF ⟨K, M, L, S, T, C, I, G⟩ = (sx.data.toList, 0)))
    (H3 : Hid (metF gen boot = ([], 4)))
    (H4 : Hid (decMF tx = ((0, 0), 4))) :
    Calls Try.prog 7 #[.agg #[.int .u8 k, .int .i64 m, .int .i64 l, .int .i64 s, .int .i64 t, .int .i64 c, .int .i64 i, .int .i64 g], .int .i64 gen, .int .i64 boot, .string sx, .string tx] w fun e w' => e = .returned (.bool true) ∧ Below w.heap.size w w' := by
  have hs2 : decide ((1000 : Int) < (sx.size : Int)) = false := by simp; omega
  have ht2 : decide ((1000 : Int) < (tx.size : Int)) = false := by simp; omega
  go_enter Try.func7, Try.ntmps7
  go_wp2_with fail
  refine (awake_any _).mono ?_
  rintro e w1 ⟨rfl, hb⟩
  have R := (RowAt.new w 23 [.int .u8 k, .int .i64 m, .int .i64 l, .int .i64 s, .int .i64 t, .int .i64 c, .int .i64 i, .int .i64 g]).next hb
  have hw := bt (b1 w _) hb
  clear hb
  obtain ⟨ba, hba⟩ : ∃ ba, ba = w.heap.size := ⟨_, rfl⟩
  rw [← hba] at R ⊢
  clear hba
  have p0 := R.cell 0
  have p1 := R.cell 1
  have p2 := R.cell 2
  have p3 := R.cell 3
  have p4 := R.cell 4
  have p5 := R.cell 5
  have p6 := R.cell 6
  have p7 := R.cell 7
  simp at p0 p1 p2 p3 p4 p5 p6 p7
  go_wp2_with fail
  refine (encodeV k m l s t c i g [] 4 _ H1.out).mono ?_
  rintro e w2 ⟨rfl, hb⟩
  clear p0 p1 p2 p3 p4 p5 p6 p7
  replace R := R.next hb
  replace hw := bt hw hb
  clear hb
  have p0 := R.cell 0
  have p1 := R.cell 1
  have p2 := R.cell 2
  have p3 := R.cell 3
  have p4 := R.cell 4
  have p5 := R.cell 5
  have p6 := R.cell 6
  have p7 := R.cell 7
  simp at p0 p1 p2 p3 p4 p5 p6 p7
  go_wp2_with fail
  refine (mayV _ _ _ _ _ _ _ _ false _ HM.out).mono ?_
  rintro e w3 ⟨rfl, hb⟩
  clear p0 p1 p2 p3 p4 p5 p6 p7
  replace R := R.next hb
  replace hw := bt hw hb
  clear hb
  go_wp2_with fail
  refine (decodeV _ K M L S T C I G 0 _ H2.out).mono ?_
  rintro e w5 ⟨rfl, hb⟩
  replace R := R.next hb
  replace hw := bt hw hb
  clear hb
  go_wp2_with fail
  refine (encodeV K M L S T C I G sx.data.toList 0 _ H2b.out).mono ?_
  rintro e w6 ⟨rfl, hb⟩
  replace hw := btA hw hb
  clear hb R
  go_wp2_with fail
  refine (encMeta_any gen boot [] 4 _ H3.out).mono ?_
  rintro e w7 ⟨rfl, hb⟩
  have Q := (RowAt.new w6 43 [.int .i64 gen, .int .i64 boot]).next hb
  replace hw := btA hw hb
  clear hb
  go_wp2_with fail
  refine (decMeta_any _ 0 0 4 _ H4.out).mono ?_
  rintro e w9 ⟨rfl, hb⟩
  replace hw := bt hw hb
  clear hb
  clear Q
  go_wp2
  go_ret
  exact ⟨rfl, bA hw _⟩

set_option maxHeartbeats 8000000 in
theorem back_0011 (k m l s t c i g gen boot X Y : Int) (sx tx : ByteArray) (r3 : List UInt8) (w : World) (hs : (sx.size : Int) ≤ 1000) (ht : (tx.size : Int) ≤ 1000)
    (HM : Hid (mayF ⟨k, m, l, s, t, c, i, g⟩ = false))
    (H1 : Hid (encodeF ⟨k, m, l, s, t, c, i, g⟩ = ([], 4)))
    (H2 : Hid (decodeF sx = (⟨0, 0, 0, 0, 0, 0, 0, 0⟩, 4)))
    (H3 : Hid (metF gen boot = (r3, 0)))
    (H3b : Hid (decMF ⟨r3.toArray⟩ = ((gen, boot), 0)))
    (H4 : Hid (decMF tx = ((X, Y), 0)))
    (H4b : Hid (metF X Y = (tx.data.toList, 0))) :
    Calls Try.prog 7 #[.agg #[.int .u8 k, .int .i64 m, .int .i64 l, .int .i64 s, .int .i64 t, .int .i64 c, .int .i64 i, .int .i64 g], .int .i64 gen, .int .i64 boot, .string sx, .string tx] w fun e w' => e = .returned (.bool true) ∧ Below w.heap.size w w' := by
  have hs2 : decide ((1000 : Int) < (sx.size : Int)) = false := by simp; omega
  have ht2 : decide ((1000 : Int) < (tx.size : Int)) = false := by simp; omega
  go_enter Try.func7, Try.ntmps7
  go_wp2_with fail
  refine (awake_any _).mono ?_
  rintro e w1 ⟨rfl, hb⟩
  have R := (RowAt.new w 23 [.int .u8 k, .int .i64 m, .int .i64 l, .int .i64 s, .int .i64 t, .int .i64 c, .int .i64 i, .int .i64 g]).next hb
  have hw := bt (b1 w _) hb
  clear hb
  obtain ⟨ba, hba⟩ : ∃ ba, ba = w.heap.size := ⟨_, rfl⟩
  rw [← hba] at R ⊢
  clear hba
  have p0 := R.cell 0
  have p1 := R.cell 1
  have p2 := R.cell 2
  have p3 := R.cell 3
  have p4 := R.cell 4
  have p5 := R.cell 5
  have p6 := R.cell 6
  have p7 := R.cell 7
  simp at p0 p1 p2 p3 p4 p5 p6 p7
  go_wp2_with fail
  refine (encodeV k m l s t c i g [] 4 _ H1.out).mono ?_
  rintro e w2 ⟨rfl, hb⟩
  clear p0 p1 p2 p3 p4 p5 p6 p7
  replace R := R.next hb
  replace hw := bt hw hb
  clear hb
  have p0 := R.cell 0
  have p1 := R.cell 1
  have p2 := R.cell 2
  have p3 := R.cell 3
  have p4 := R.cell 4
  have p5 := R.cell 5
  have p6 := R.cell 6
  have p7 := R.cell 7
  simp at p0 p1 p2 p3 p4 p5 p6 p7
  go_wp2_with fail
  refine (mayV _ _ _ _ _ _ _ _ false _ HM.out).mono ?_
  rintro e w3 ⟨rfl, hb⟩
  clear p0 p1 p2 p3 p4 p5 p6 p7
  replace R := R.next hb
  replace hw := bt hw hb
  clear hb
  go_wp2_with fail
  refine (decodeV _ 0 0 0 0 0 0 0 0 4 _ H2.out).mono ?_
  rintro e w5 ⟨rfl, hb⟩
  replace R := R.next hb
  replace hw := bt hw hb
  clear hb
  go_wp2_with fail
  refine (encMeta_any gen boot r3 0 _ H3.out).mono ?_
  rintro e w7 ⟨rfl, hb⟩
  have Q := (RowAt.new (w5.alloc (.cells #[.int .u8 0, .int .i64 0, .int .i64 0, .int .i64 0, .int .i64 0, .int .i64 0, .int .i64 0, .int .i64 0] 23)) 43 [.int .i64 gen, .int .i64 boot]).next hb
  simp only [World.size_alloc] at Q
  replace hw := bt (bA (bA hw _) _) hb
  clear hb
  go_wp2_with fail
  refine (decMeta_any _ gen boot 0 _ H3b.out).mono ?_
  rintro e w8 ⟨rfl, hb⟩
  replace Q := Q.next hb
  replace hw := bt hw hb
  clear hb
  have Qlt := Q.lt
  have q0 := Q.cell 0
  have q1 := Q.cell 1
  simp at q0 q1
  go_wp2_with fail
  refine (decMeta_any _ X Y 0 _ H4.out).mono ?_
  rintro e w9 ⟨rfl, hb⟩
  replace hw := btA hw hb
  clear hb
  clear q0 q1
  clear Qlt
  clear Q
  go_wp2_with fail
  refine (encMeta_any X Y tx.data.toList 0 _ H4b.out).mono ?_
  rintro e w10 ⟨rfl, hb⟩
  replace hw := btA hw hb
  go_wp2
  go_ret
  exact ⟨rfl, hw⟩

set_option maxHeartbeats 8000000 in
theorem back_0010 (k m l s t c i g gen boot : Int) (sx tx : ByteArray) (r3 : List UInt8) (w : World) (hs : (sx.size : Int) ≤ 1000) (ht : (tx.size : Int) ≤ 1000)
    (HM : Hid (mayF ⟨k, m, l, s, t, c, i, g⟩ = false))
    (H1 : Hid (encodeF ⟨k, m, l, s, t, c, i, g⟩ = ([], 4)))
    (H2 : Hid (decodeF sx = (⟨0, 0, 0, 0, 0, 0, 0, 0⟩, 4)))
    (H3 : Hid (metF gen boot = (r3, 0)))
    (H3b : Hid (decMF ⟨r3.toArray⟩ = ((gen, boot), 0)))
    (H4 : Hid (decMF tx = ((0, 0), 4))) :
    Calls Try.prog 7 #[.agg #[.int .u8 k, .int .i64 m, .int .i64 l, .int .i64 s, .int .i64 t, .int .i64 c, .int .i64 i, .int .i64 g], .int .i64 gen, .int .i64 boot, .string sx, .string tx] w fun e w' => e = .returned (.bool true) ∧ Below w.heap.size w w' := by
  have hs2 : decide ((1000 : Int) < (sx.size : Int)) = false := by simp; omega
  have ht2 : decide ((1000 : Int) < (tx.size : Int)) = false := by simp; omega
  go_enter Try.func7, Try.ntmps7
  go_wp2_with fail
  refine (awake_any _).mono ?_
  rintro e w1 ⟨rfl, hb⟩
  have R := (RowAt.new w 23 [.int .u8 k, .int .i64 m, .int .i64 l, .int .i64 s, .int .i64 t, .int .i64 c, .int .i64 i, .int .i64 g]).next hb
  have hw := bt (b1 w _) hb
  clear hb
  obtain ⟨ba, hba⟩ : ∃ ba, ba = w.heap.size := ⟨_, rfl⟩
  rw [← hba] at R ⊢
  clear hba
  have p0 := R.cell 0
  have p1 := R.cell 1
  have p2 := R.cell 2
  have p3 := R.cell 3
  have p4 := R.cell 4
  have p5 := R.cell 5
  have p6 := R.cell 6
  have p7 := R.cell 7
  simp at p0 p1 p2 p3 p4 p5 p6 p7
  go_wp2_with fail
  refine (encodeV k m l s t c i g [] 4 _ H1.out).mono ?_
  rintro e w2 ⟨rfl, hb⟩
  clear p0 p1 p2 p3 p4 p5 p6 p7
  replace R := R.next hb
  replace hw := bt hw hb
  clear hb
  have p0 := R.cell 0
  have p1 := R.cell 1
  have p2 := R.cell 2
  have p3 := R.cell 3
  have p4 := R.cell 4
  have p5 := R.cell 5
  have p6 := R.cell 6
  have p7 := R.cell 7
  simp at p0 p1 p2 p3 p4 p5 p6 p7
  go_wp2_with fail
  refine (mayV _ _ _ _ _ _ _ _ false _ HM.out).mono ?_
  rintro e w3 ⟨rfl, hb⟩
  clear p0 p1 p2 p3 p4 p5 p6 p7
  replace R := R.next hb
  replace hw := bt hw hb
  clear hb
  go_wp2_with fail
  refine (decodeV _ 0 0 0 0 0 0 0 0 4 _ H2.out).mono ?_
  rintro e w5 ⟨rfl, hb⟩
  replace R := R.next hb
  replace hw := bt hw hb
  clear hb
  go_wp2_with fail
  refine (encMeta_any gen boot r3 0 _ H3.out).mono ?_
  rintro e w7 ⟨rfl, hb⟩
  have Q := (RowAt.new (w5.alloc (.cells #[.int .u8 0, .int .i64 0, .int .i64 0, .int .i64 0, .int .i64 0, .int .i64 0, .int .i64 0, .int .i64 0] 23)) 43 [.int .i64 gen, .int .i64 boot]).next hb
  simp only [World.size_alloc] at Q
  replace hw := bt (bA (bA hw _) _) hb
  clear hb
  go_wp2_with fail
  refine (decMeta_any _ gen boot 0 _ H3b.out).mono ?_
  rintro e w8 ⟨rfl, hb⟩
  replace Q := Q.next hb
  replace hw := bt hw hb
  clear hb
  have Qlt := Q.lt
  have q0 := Q.cell 0
  have q1 := Q.cell 1
  simp at q0 q1
  go_wp2_with fail
  refine (decMeta_any _ 0 0 4 _ H4.out).mono ?_
  rintro e w9 ⟨rfl, hb⟩
  replace hw := btA hw hb
  clear hb
  clear q0 q1
  clear Qlt
  clear Q
  go_wp2
  go_ret
  exact ⟨rfl, bA hw _⟩

set_option maxHeartbeats 8000000 in
theorem back_0001 (k m l s t c i g gen boot X Y : Int) (sx tx : ByteArray) (w : World) (hs : (sx.size : Int) ≤ 1000) (ht : (tx.size : Int) ≤ 1000)
    (HM : Hid (mayF ⟨k, m, l, s, t, c, i, g⟩ = false))
    (H1 : Hid (encodeF ⟨k, m, l, s, t, c, i, g⟩ = ([], 4)))
    (H2 : Hid (decodeF sx = (⟨0, 0, 0, 0, 0, 0, 0, 0⟩, 4)))
    (H3 : Hid (metF gen boot = ([], 4)))
    (H4 : Hid (decMF tx = ((X, Y), 0)))
    (H4b : Hid (metF X Y = (tx.data.toList, 0))) :
    Calls Try.prog 7 #[.agg #[.int .u8 k, .int .i64 m, .int .i64 l, .int .i64 s, .int .i64 t, .int .i64 c, .int .i64 i, .int .i64 g], .int .i64 gen, .int .i64 boot, .string sx, .string tx] w fun e w' => e = .returned (.bool true) ∧ Below w.heap.size w w' := by
  have hs2 : decide ((1000 : Int) < (sx.size : Int)) = false := by simp; omega
  have ht2 : decide ((1000 : Int) < (tx.size : Int)) = false := by simp; omega
  go_enter Try.func7, Try.ntmps7
  go_wp2_with fail
  refine (awake_any _).mono ?_
  rintro e w1 ⟨rfl, hb⟩
  have R := (RowAt.new w 23 [.int .u8 k, .int .i64 m, .int .i64 l, .int .i64 s, .int .i64 t, .int .i64 c, .int .i64 i, .int .i64 g]).next hb
  have hw := bt (b1 w _) hb
  clear hb
  obtain ⟨ba, hba⟩ : ∃ ba, ba = w.heap.size := ⟨_, rfl⟩
  rw [← hba] at R ⊢
  clear hba
  have p0 := R.cell 0
  have p1 := R.cell 1
  have p2 := R.cell 2
  have p3 := R.cell 3
  have p4 := R.cell 4
  have p5 := R.cell 5
  have p6 := R.cell 6
  have p7 := R.cell 7
  simp at p0 p1 p2 p3 p4 p5 p6 p7
  go_wp2_with fail
  refine (encodeV k m l s t c i g [] 4 _ H1.out).mono ?_
  rintro e w2 ⟨rfl, hb⟩
  clear p0 p1 p2 p3 p4 p5 p6 p7
  replace R := R.next hb
  replace hw := bt hw hb
  clear hb
  have p0 := R.cell 0
  have p1 := R.cell 1
  have p2 := R.cell 2
  have p3 := R.cell 3
  have p4 := R.cell 4
  have p5 := R.cell 5
  have p6 := R.cell 6
  have p7 := R.cell 7
  simp at p0 p1 p2 p3 p4 p5 p6 p7
  go_wp2_with fail
  refine (mayV _ _ _ _ _ _ _ _ false _ HM.out).mono ?_
  rintro e w3 ⟨rfl, hb⟩
  clear p0 p1 p2 p3 p4 p5 p6 p7
  replace R := R.next hb
  replace hw := bt hw hb
  clear hb
  go_wp2_with fail
  refine (decodeV _ 0 0 0 0 0 0 0 0 4 _ H2.out).mono ?_
  rintro e w5 ⟨rfl, hb⟩
  replace R := R.next hb
  replace hw := bt hw hb
  clear hb
  go_wp2_with fail
  refine (encMeta_any gen boot [] 4 _ H3.out).mono ?_
  rintro e w7 ⟨rfl, hb⟩
  have Q := (RowAt.new (w5.alloc (.cells #[.int .u8 0, .int .i64 0, .int .i64 0, .int .i64 0, .int .i64 0, .int .i64 0, .int .i64 0, .int .i64 0] 23)) 43 [.int .i64 gen, .int .i64 boot]).next hb
  simp only [World.size_alloc] at Q
  replace hw := bt (bA (bA hw _) _) hb
  clear hb
  go_wp2_with fail
  refine (decMeta_any _ X Y 0 _ H4.out).mono ?_
  rintro e w9 ⟨rfl, hb⟩
  replace hw := bt hw hb
  clear hb
  clear Q
  go_wp2_with fail
  refine (encMeta_any X Y tx.data.toList 0 _ H4b.out).mono ?_
  rintro e w10 ⟨rfl, hb⟩
  replace hw := btA hw hb
  go_wp2
  go_ret
  exact ⟨rfl, hw⟩

set_option maxHeartbeats 8000000 in
theorem back_0000 (k m l s t c i g gen boot : Int) (sx tx : ByteArray) (w : World) (hs : (sx.size : Int) ≤ 1000) (ht : (tx.size : Int) ≤ 1000)
    (HM : Hid (mayF ⟨k, m, l, s, t, c, i, g⟩ = false))
    (H1 : Hid (encodeF ⟨k, m, l, s, t, c, i, g⟩ = ([], 4)))
    (H2 : Hid (decodeF sx = (⟨0, 0, 0, 0, 0, 0, 0, 0⟩, 4)))
    (H3 : Hid (metF gen boot = ([], 4)))
    (H4 : Hid (decMF tx = ((0, 0), 4))) :
    Calls Try.prog 7 #[.agg #[.int .u8 k, .int .i64 m, .int .i64 l, .int .i64 s, .int .i64 t, .int .i64 c, .int .i64 i, .int .i64 g], .int .i64 gen, .int .i64 boot, .string sx, .string tx] w fun e w' => e = .returned (.bool true) ∧ Below w.heap.size w w' := by
  have hs2 : decide ((1000 : Int) < (sx.size : Int)) = false := by simp; omega
  have ht2 : decide ((1000 : Int) < (tx.size : Int)) = false := by simp; omega
  go_enter Try.func7, Try.ntmps7
  go_wp2_with fail
  refine (awake_any _).mono ?_
  rintro e w1 ⟨rfl, hb⟩
  have R := (RowAt.new w 23 [.int .u8 k, .int .i64 m, .int .i64 l, .int .i64 s, .int .i64 t, .int .i64 c, .int .i64 i, .int .i64 g]).next hb
  have hw := bt (b1 w _) hb
  clear hb
  obtain ⟨ba, hba⟩ : ∃ ba, ba = w.heap.size := ⟨_, rfl⟩
  rw [← hba] at R ⊢
  clear hba
  have p0 := R.cell 0
  have p1 := R.cell 1
  have p2 := R.cell 2
  have p3 := R.cell 3
  have p4 := R.cell 4
  have p5 := R.cell 5
  have p6 := R.cell 6
  have p7 := R.cell 7
  simp at p0 p1 p2 p3 p4 p5 p6 p7
  go_wp2_with fail
  refine (encodeV k m l s t c i g [] 4 _ H1.out).mono ?_
  rintro e w2 ⟨rfl, hb⟩
  clear p0 p1 p2 p3 p4 p5 p6 p7
  replace R := R.next hb
  replace hw := bt hw hb
  clear hb
  have p0 := R.cell 0
  have p1 := R.cell 1
  have p2 := R.cell 2
  have p3 := R.cell 3
  have p4 := R.cell 4
  have p5 := R.cell 5
  have p6 := R.cell 6
  have p7 := R.cell 7
  simp at p0 p1 p2 p3 p4 p5 p6 p7
  go_wp2_with fail
  refine (mayV _ _ _ _ _ _ _ _ false _ HM.out).mono ?_
  rintro e w3 ⟨rfl, hb⟩
  clear p0 p1 p2 p3 p4 p5 p6 p7
  replace R := R.next hb
  replace hw := bt hw hb
  clear hb
  go_wp2_with fail
  refine (decodeV _ 0 0 0 0 0 0 0 0 4 _ H2.out).mono ?_
  rintro e w5 ⟨rfl, hb⟩
  replace R := R.next hb
  replace hw := bt hw hb
  clear hb
  go_wp2_with fail
  refine (encMeta_any gen boot [] 4 _ H3.out).mono ?_
  rintro e w7 ⟨rfl, hb⟩
  have Q := (RowAt.new (w5.alloc (.cells #[.int .u8 0, .int .i64 0, .int .i64 0, .int .i64 0, .int .i64 0, .int .i64 0, .int .i64 0, .int .i64 0] 23)) 43 [.int .i64 gen, .int .i64 boot]).next hb
  simp only [World.size_alloc] at Q
  replace hw := bt (bA (bA hw _) _) hb
  clear hb
  go_wp2_with fail
  refine (decMeta_any _ 0 0 4 _ H4.out).mono ?_
  rintro e w9 ⟨rfl, hb⟩
  replace hw := bt hw hb
  clear hb
  clear Q
  go_wp2
  go_ret
  exact ⟨rfl, bA hw _⟩

set_option maxHeartbeats 8000000 in
theorem back_long1 (k m l s t c i g gen boot : Int) (sx tx : ByteArray) (w : World) (hs : 1000 < (sx.size : Int)) : Calls Try.prog 7 #[.agg #[.int .u8 k, .int .i64 m, .int .i64 l, .int .i64 s, .int .i64 t, .int .i64 c, .int .i64 i, .int .i64 g], .int .i64 gen, .int .i64 boot, .string sx, .string tx] w fun e w' => e = .returned (.bool true) ∧ Below w.heap.size w w' := by
  have hs2 : decide ((1000 : Int) < (sx.size : Int)) = true := by simp; omega
  go_enter Try.func7, Try.ntmps7
  go_wp2_with fail
  refine (awake_any _).mono ?_
  rintro e w1 ⟨rfl, hb⟩
  have hw := bt (b1 w _) hb
  clear hb
  go_wp2
  go_ret
  exact ⟨rfl, hw⟩

set_option maxHeartbeats 8000000 in
theorem back_long2 (k m l s t c i g gen boot : Int) (sx tx : ByteArray) (w : World) (hs : (sx.size : Int) ≤ 1000) (ht : 1000 < (tx.size : Int)) : Calls Try.prog 7 #[.agg #[.int .u8 k, .int .i64 m, .int .i64 l, .int .i64 s, .int .i64 t, .int .i64 c, .int .i64 i, .int .i64 g], .int .i64 gen, .int .i64 boot, .string sx, .string tx] w fun e w' => e = .returned (.bool true) ∧ Below w.heap.size w w' := by
  have hs2 : decide ((1000 : Int) < (sx.size : Int)) = false := by simp; omega
  have ht2 : decide ((1000 : Int) < (tx.size : Int)) = true := by simp; omega
  go_enter Try.func7, Try.ntmps7
  go_wp2_with fail
  refine (awake_any _).mono ?_
  rintro e w1 ⟨rfl, hb⟩
  have hw := bt (b1 w _) hb
  clear hb
  go_wp2
  go_ret
  exact ⟨rfl, hw⟩

theorem back_any (k m l s t c i g gen boot : Int) (sx tx : ByteArray) (w : World) : Calls Try.prog 7 #[.agg #[.int .u8 k, .int .i64 m, .int .i64 l, .int .i64 s, .int .i64 t, .int .i64 c, .int .i64 i, .int .i64 g], .int .i64 gen, .int .i64 boot, .string sx, .string tx] w fun e w' => e = .returned (.bool true) ∧ Below w.heap.size w w' := by
  by_cases hs : 1000 < (sx.size : Int)
  · exact back_long1 k m l s t c i g gen boot sx tx w hs
  by_cases ht : 1000 < (tx.size : Int)
  · exact back_long2 k m l s t c i g gen boot sx tx w (by omega) ht
  have hs' : (sx.size : Int) ≤ 1000 := by omega
  have ht' : (tx.size : Int) ≤ 1000 := by omega
  have c1 : (mayF ⟨k, m, l, s, t, c, i, g⟩ = true ∧ encodeF ⟨k, m, l, s, t, c, i, g⟩ = (encL ⟨k, m, l, s, t, c, i, g⟩, 0)) ∨ (mayF ⟨k, m, l, s, t, c, i, g⟩ = false ∧ encodeF ⟨k, m, l, s, t, c, i, g⟩ = ([], 4)) := by
    cases h : mayF ⟨k, m, l, s, t, c, i, g⟩
    · exact .inr ⟨rfl, by unfold encodeF; rw [h]; rfl⟩
    · exact .inl ⟨rfl, by unfold encodeF; rw [h]; rfl⟩
  have c2 : (decodeF sx = (decF sx, 0)) ∨ decodeF sx = (⟨0, 0, 0, 0, 0, 0, 0, 0⟩, 4) := by
    unfold decodeF; split
    · exact .inl rfl
    · exact .inr rfl
  have c3 : metF gen boot = (metL gen boot, 0) ∨ metF gen boot = ([], 4) := by
    unfold metF; split
    · exact .inl rfl
    · exact .inr rfl
  have c4 : decMF tx = ((numAt tx 1, numAt tx 5), 0) ∨ decMF tx = ((0, 0), 4) := by
    unfold decMF; split
    · exact .inl rfl
    · exact .inr rfl
  rcases c1 with ⟨a1, a2⟩ | ⟨a1, a2⟩
  all_goals rcases c2 with b1 | b1
  all_goals rcases c3 with d1 | d1
  all_goals rcases c4 with f1 | f1
  · exact back_1111 k m l s t c i g gen boot _ _ _ _ _ _ _ _ _ _ sx tx _ _ w hs' ht' (Lib.hid a1) (Lib.hid a2) (Lib.hid (dec_enc k m l s t c i g a1)) (Lib.hid b1) (Lib.hid (enc_dec sx _ b1)) (Lib.hid d1) (Lib.hid (decM_met gen boot _ d1)) (Lib.hid f1) (Lib.hid (met_decM tx _ _ f1))
  · exact back_1110 k m l s t c i g gen boot _ _ _ _ _ _ _ _ sx tx _ _ w hs' ht' (Lib.hid a1) (Lib.hid a2) (Lib.hid (dec_enc k m l s t c i g a1)) (Lib.hid b1) (Lib.hid (enc_dec sx _ b1)) (Lib.hid d1) (Lib.hid (decM_met gen boot _ d1)) (Lib.hid f1)
  · exact back_1101 k m l s t c i g gen boot _ _ _ _ _ _ _ _ _ _ sx tx _ w hs' ht' (Lib.hid a1) (Lib.hid a2) (Lib.hid (dec_enc k m l s t c i g a1)) (Lib.hid b1) (Lib.hid (enc_dec sx _ b1)) (Lib.hid d1) (Lib.hid f1) (Lib.hid (met_decM tx _ _ f1))
  · exact back_1100 k m l s t c i g gen boot _ _ _ _ _ _ _ _ sx tx _ w hs' ht' (Lib.hid a1) (Lib.hid a2) (Lib.hid (dec_enc k m l s t c i g a1)) (Lib.hid b1) (Lib.hid (enc_dec sx _ b1)) (Lib.hid d1) (Lib.hid f1)
  · exact back_1011 k m l s t c i g gen boot _ _ sx tx _ _ w hs' ht' (Lib.hid a1) (Lib.hid a2) (Lib.hid (dec_enc k m l s t c i g a1)) (Lib.hid b1) (Lib.hid d1) (Lib.hid (decM_met gen boot _ d1)) (Lib.hid f1) (Lib.hid (met_decM tx _ _ f1))
  · exact back_1010 k m l s t c i g gen boot sx tx _ _ w hs' ht' (Lib.hid a1) (Lib.hid a2) (Lib.hid (dec_enc k m l s t c i g a1)) (Lib.hid b1) (Lib.hid d1) (Lib.hid (decM_met gen boot _ d1)) (Lib.hid f1)
  · exact back_1001 k m l s t c i g gen boot _ _ sx tx _ w hs' ht' (Lib.hid a1) (Lib.hid a2) (Lib.hid (dec_enc k m l s t c i g a1)) (Lib.hid b1) (Lib.hid d1) (Lib.hid f1) (Lib.hid (met_decM tx _ _ f1))
  · exact back_1000 k m l s t c i g gen boot sx tx _ w hs' ht' (Lib.hid a1) (Lib.hid a2) (Lib.hid (dec_enc k m l s t c i g a1)) (Lib.hid b1) (Lib.hid d1) (Lib.hid f1)
  · exact back_0111 k m l s t c i g gen boot _ _ _ _ _ _ _ _ _ _ sx tx _ w hs' ht' (Lib.hid a1) (Lib.hid a2) (Lib.hid b1) (Lib.hid (enc_dec sx _ b1)) (Lib.hid d1) (Lib.hid (decM_met gen boot _ d1)) (Lib.hid f1) (Lib.hid (met_decM tx _ _ f1))
  · exact back_0110 k m l s t c i g gen boot _ _ _ _ _ _ _ _ sx tx _ w hs' ht' (Lib.hid a1) (Lib.hid a2) (Lib.hid b1) (Lib.hid (enc_dec sx _ b1)) (Lib.hid d1) (Lib.hid (decM_met gen boot _ d1)) (Lib.hid f1)
  · exact back_0101 k m l s t c i g gen boot _ _ _ _ _ _ _ _ _ _ sx tx w hs' ht' (Lib.hid a1) (Lib.hid a2) (Lib.hid b1) (Lib.hid (enc_dec sx _ b1)) (Lib.hid d1) (Lib.hid f1) (Lib.hid (met_decM tx _ _ f1))
  · exact back_0100 k m l s t c i g gen boot _ _ _ _ _ _ _ _ sx tx w hs' ht' (Lib.hid a1) (Lib.hid a2) (Lib.hid b1) (Lib.hid (enc_dec sx _ b1)) (Lib.hid d1) (Lib.hid f1)
  · exact back_0011 k m l s t c i g gen boot _ _ sx tx _ w hs' ht' (Lib.hid a1) (Lib.hid a2) (Lib.hid b1) (Lib.hid d1) (Lib.hid (decM_met gen boot _ d1)) (Lib.hid f1) (Lib.hid (met_decM tx _ _ f1))
  · exact back_0010 k m l s t c i g gen boot sx tx _ w hs' ht' (Lib.hid a1) (Lib.hid a2) (Lib.hid b1) (Lib.hid d1) (Lib.hid (decM_met gen boot _ d1)) (Lib.hid f1)
  · exact back_0001 k m l s t c i g gen boot _ _ sx tx w hs' ht' (Lib.hid a1) (Lib.hid a2) (Lib.hid b1) (Lib.hid d1) (Lib.hid f1) (Lib.hid (met_decM tx _ _ f1))
  · exact back_0000 k m l s t c i g gen boot sx tx w hs' ht' (Lib.hid a1) (Lib.hid a2) (Lib.hid b1) (Lib.hid d1) (Lib.hid f1)
end Go.Proofs.Ytochpjoanldfpaa
