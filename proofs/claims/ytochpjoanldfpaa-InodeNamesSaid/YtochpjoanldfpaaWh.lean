/- Whose a handle is; awake. -/
import Derived.Test.YtochpjoanldfpaaWg
namespace Go.Proofs.Ytochpjoanldfpaa
open Go.RowKit
set_option maxHeartbeats 1000000 in
theorem is_any (k m l s t c i g x y z : Int) (w : World) : Calls Try.prog 17 #[.agg #[.int .u8 k, .int .i64 m, .int .i64 l, .int .i64 s, .int .i64 t, .int .i64 c, .int .i64 i, .int .i64 g], .agg #[.int .i64 x, .int .i64 y, .int .i64 z]] w fun e w' => e = .returned (.bool (i == y && g == z)) ∧ Below w.heap.size w w' := by
  go_enter Try.func17, Try.ntmps17
  go_wp2
  have A : RowAt ((w.alloc (.cells #[.int .u8 k, .int .i64 m, .int .i64 l, .int .i64 s, .int .i64 t, .int .i64 c, .int .i64 i, .int .i64 g] 23)).alloc (.cells #[.int .i64 x, .int .i64 y, .int .i64 z] 25)) w.heap.size 23 [.int .u8 k, .int .i64 m, .int .i64 l, .int .i64 s, .int .i64 t, .int .i64 c, .int .i64 i, .int .i64 g] := (RowAt.new w 23 _).alloc _
  have B : RowAt ((w.alloc (.cells #[.int .u8 k, .int .i64 m, .int .i64 l, .int .i64 s, .int .i64 t, .int .i64 c, .int .i64 i, .int .i64 g] 23)).alloc (.cells #[.int .i64 x, .int .i64 y, .int .i64 z] 25)) (w.heap.size + 1) 25 [.int .i64 x, .int .i64 y, .int .i64 z] := by
    have := RowAt.new (w.alloc (.cells #[.int .u8 k, .int .i64 m, .int .i64 l, .int .i64 s, .int .i64 t, .int .i64 c, .int .i64 i, .int .i64 g] 23)) 25 [.int .i64 x, .int .i64 y, .int .i64 z]
    simpa only [World.size_alloc] using this
  have hw := below2 w (.cells #[.int .u8 k, .int .i64 m, .int .i64 l, .int .i64 s, .int .i64 t, .int .i64 c, .int .i64 i, .int .i64 g] 23) (.cells #[.int .i64 x, .int .i64 y, .int .i64 z] 25)
  generalize (w.alloc (.cells #[.int .u8 k, .int .i64 m, .int .i64 l, .int .i64 s, .int .i64 t, .int .i64 c, .int .i64 i, .int .i64 g] 23)).alloc (.cells #[.int .i64 x, .int .i64 y, .int .i64 z] 25) = W at *
  refine wp_region_bw W.heap.size (by kernel_rfl) (by kernel_rfl) ?_
  have a0 := fun x : Bw W.heap.size W => (A.next x.ok).cell 0
  have a1 := fun x : Bw W.heap.size W => (A.next x.ok).cell 1
  have a2 := fun x : Bw W.heap.size W => (A.next x.ok).cell 2
  have a3 := fun x : Bw W.heap.size W => (A.next x.ok).cell 3
  have a4 := fun x : Bw W.heap.size W => (A.next x.ok).cell 4
  have a5 := fun x : Bw W.heap.size W => (A.next x.ok).cell 5
  have a6 := fun x : Bw W.heap.size W => (A.next x.ok).cell 6
  have a7 := fun x : Bw W.heap.size W => (A.next x.ok).cell 7
  have b0 := fun x : Bw W.heap.size W => (B.next x.ok).cell 0
  have b1 := fun x : Bw W.heap.size W => (B.next x.ok).cell 1
  have b2 := fun x : Bw W.heap.size W => (B.next x.ok).cell 2
  simp at a0 a1 a2 a3 a4 a5 a6 a7 b0 b1 b2
  clear A B
  have heq : ∀ (W : World), (if i = y then if g = z then Result.ok (Value.bool true) W else Result.ok (Value.bool false) W else Result.ok (Value.bool false) W) = Result.ok (Value.bool (i == y && g == z)) W := by
    intro W
    by_cases h1 : i = y <;> by_cases h2 : g = z <;> simp [h1, h2]
  obtain ⟨r, hr⟩ : ∃ r, r = (i == y && g == z) := ⟨_, rfl⟩
  rw [← hr] at heq
  have HR := Lib.hid hr
  clear hr
  repeat (go_big_quiet_step ((go_at_call 16; exact Calls.bw (Nat.le_refl _) _ (handle_any _ _ _ _ _ _ _ _ _ _))))
  refine wpQuiet_nil ?_
  rintro w' ⟨x, rfl⟩
  go_wp2
  go_ret
  exact ⟨by rw [← HR.out]; rfl, bt hw x.ok⟩
theorem newV (k m i g n K M L S T C I G E : Int) (w : World) (h : newF k m i g n = (⟨K, M, L, S, T, C, I, G⟩, E)) : Calls Try.prog 8 #[.int .u8 k, .int .i64 m, .int .i64 i, .int .i64 g, .int .i64 n] w fun e w' => e = .returned (.tuple #[.agg #[.int .u8 K, .int .i64 M, .int .i64 L, .int .i64 S, .int .i64 T, .int .i64 C, .int .i64 I, .int .i64 G], .int .i64 E]) ∧ Below w.heap.size w w' :=
  (new_any k m i g n w).mono fun e w' ⟨h1, h2⟩ => ⟨by rw [h1, h]; rfl, h2⟩
theorem newRV (k m i g n K M L S T C I G E : Int) (w : World) (h : newF k m i g n = (⟨K, M, L, S, T, C, I, G⟩, E)) : Calls Try.prog 9 #[.int .u8 k, .int .i64 m, .int .i64 i, .int .i64 g, .int .i64 n] w fun e w' => e = .returned (.tuple #[.agg #[.int .u8 K, .int .i64 M, .int .i64 L, .int .i64 S, .int .i64 T, .int .i64 C, .int .i64 I, .int .i64 G], .int .i64 E]) ∧ Below w.heap.size w w' :=
  (newR_any k m i g n w).mono fun e w' ⟨h1, h2⟩ => ⟨by rw [h1, h]; rfl, h2⟩
theorem linkedV (k m l s t c i g b n K M L S T C I G E : Int) (w : World) (h0 : -9223372036854775808 ≤ l) (h9 : l ≤ 9223372036854775807) (h : linkedF ⟨k, m, l, s, t, c, i, g⟩ b n = (⟨K, M, L, S, T, C, I, G⟩, E)) : Calls Try.prog 10 #[.agg #[.int .u8 k, .int .i64 m, .int .i64 l, .int .i64 s, .int .i64 t, .int .i64 c, .int .i64 i, .int .i64 g], .int .i64 b, .int .i64 n] w fun e w' => e = .returned (.tuple #[.agg #[.int .u8 K, .int .i64 M, .int .i64 L, .int .i64 S, .int .i64 T, .int .i64 C, .int .i64 I, .int .i64 G], .int .i64 E]) ∧ Below w.heap.size w w' :=
  (linked_any k m l s t c i g b n w h0 h9).mono fun e w' ⟨h1, h2⟩ => ⟨by rw [h1, h]; rfl, h2⟩
theorem linkedRV (k m l s t c i g b n K M L S T C I G E : Int) (w : World) (h0 : -9223372036854775808 ≤ l) (h9 : l ≤ 9223372036854775807) (h : linkedF ⟨k, m, l, s, t, c, i, g⟩ b n = (⟨K, M, L, S, T, C, I, G⟩, E)) : Calls Try.prog 11 #[.agg #[.int .u8 k, .int .i64 m, .int .i64 l, .int .i64 s, .int .i64 t, .int .i64 c, .int .i64 i, .int .i64 g], .int .i64 b, .int .i64 n] w fun e w' => e = .returned (.tuple #[.agg #[.int .u8 K, .int .i64 M, .int .i64 L, .int .i64 S, .int .i64 T, .int .i64 C, .int .i64 I, .int .i64 G], .int .i64 E]) ∧ Below w.heap.size w w' :=
  (linkedR_any k m l s t c i g b n w h0 h9).mono fun e w' ⟨h1, h2⟩ => ⟨by rw [h1, h]; rfl, h2⟩
theorem sizedV (k m l s t c i g z n K M L S T C I G E : Int) (w : World) (h : sizedF ⟨k, m, l, s, t, c, i, g⟩ z n = (⟨K, M, L, S, T, C, I, G⟩, E)) : Calls Try.prog 12 #[.agg #[.int .u8 k, .int .i64 m, .int .i64 l, .int .i64 s, .int .i64 t, .int .i64 c, .int .i64 i, .int .i64 g], .int .i64 z, .int .i64 n] w fun e w' => e = .returned (.tuple #[.agg #[.int .u8 K, .int .i64 M, .int .i64 L, .int .i64 S, .int .i64 T, .int .i64 C, .int .i64 I, .int .i64 G], .int .i64 E]) ∧ Below w.heap.size w w' :=
  (sized_any k m l s t c i g z n w).mono fun e w' ⟨h1, h2⟩ => ⟨by rw [h1, h]; rfl, h2⟩
theorem sizedRV (k m l s t c i g z n K M L S T C I G E : Int) (w : World) (h : sizedF ⟨k, m, l, s, t, c, i, g⟩ z n = (⟨K, M, L, S, T, C, I, G⟩, E)) : Calls Try.prog 13 #[.agg #[.int .u8 k, .int .i64 m, .int .i64 l, .int .i64 s, .int .i64 t, .int .i64 c, .int .i64 i, .int .i64 g], .int .i64 z, .int .i64 n] w fun e w' => e = .returned (.tuple #[.agg #[.int .u8 K, .int .i64 M, .int .i64 L, .int .i64 S, .int .i64 T, .int .i64 C, .int .i64 I, .int .i64 G], .int .i64 E]) ∧ Below w.heap.size w w' :=
  (sizedR_any k m l s t c i g z n w).mono fun e w' ⟨h1, h2⟩ => ⟨by rw [h1, h]; rfl, h2⟩
theorem modedV (k m l s t c i g z n K M L S T C I G E : Int) (w : World) (h : modedF ⟨k, m, l, s, t, c, i, g⟩ z n = (⟨K, M, L, S, T, C, I, G⟩, E)) : Calls Try.prog 14 #[.agg #[.int .u8 k, .int .i64 m, .int .i64 l, .int .i64 s, .int .i64 t, .int .i64 c, .int .i64 i, .int .i64 g], .int .i64 z, .int .i64 n] w fun e w' => e = .returned (.tuple #[.agg #[.int .u8 K, .int .i64 M, .int .i64 L, .int .i64 S, .int .i64 T, .int .i64 C, .int .i64 I, .int .i64 G], .int .i64 E]) ∧ Below w.heap.size w w' :=
  (moded_any k m l s t c i g z n w).mono fun e w' ⟨h1, h2⟩ => ⟨by rw [h1, h]; rfl, h2⟩
theorem modedRV (k m l s t c i g z n K M L S T C I G E : Int) (w : World) (h : modedF ⟨k, m, l, s, t, c, i, g⟩ z n = (⟨K, M, L, S, T, C, I, G⟩, E)) : Calls Try.prog 15 #[.agg #[.int .u8 k, .int .i64 m, .int .i64 l, .int .i64 s, .int .i64 t, .int .i64 c, .int .i64 i, .int .i64 g], .int .i64 z, .int .i64 n] w fun e w' => e = .returned (.tuple #[.agg #[.int .u8 K, .int .i64 M, .int .i64 L, .int .i64 S, .int .i64 T, .int .i64 C, .int .i64 I, .int .i64 G], .int .i64 E]) ∧ Below w.heap.size w w' :=
  (modedR_any k m l s t c i g z n w).mono fun e w' ⟨h1, h2⟩ => ⟨by rw [h1, h]; rfl, h2⟩
theorem decodeV (s : ByteArray) (K M L S T C I G E : Int) (w : World) (h : decodeF s = (⟨K, M, L, S, T, C, I, G⟩, E)) : Calls Try.prog 22 #[.string s] w fun e w' => e = .returned (.tuple #[.agg #[.int .u8 K, .int .i64 M, .int .i64 L, .int .i64 S, .int .i64 T, .int .i64 C, .int .i64 I, .int .i64 G], .int .i64 E]) ∧ Below w.heap.size w w' :=
  (decode_any s w).mono fun e w' ⟨h1, h2⟩ => ⟨by rw [h1, h]; rfl, h2⟩
theorem mayV (k m l s t c i g : Int) (b : Bool) (w : World) (h : mayF ⟨k, m, l, s, t, c, i, g⟩ = b) : Calls Try.prog 19 #[.agg #[.int .u8 k, .int .i64 m, .int .i64 l, .int .i64 s, .int .i64 t, .int .i64 c, .int .i64 i, .int .i64 g]] w fun e w' => e = .returned (.bool b) ∧ Below w.heap.size w w' := by
  subst h; exact may_any k m l s t c i g w
def encodeF (a : Att) : List UInt8 × Int := if mayF a then (encL a, 0) else ([], 4)
theorem encodeV (k m l s t c i g : Int) (r : List UInt8) (E : Int) (w : World) (h : encodeF ⟨k, m, l, s, t, c, i, g⟩ = (r, E)) : Calls Try.prog 20 #[.agg #[.int .u8 k, .int .i64 m, .int .i64 l, .int .i64 s, .int .i64 t, .int .i64 c, .int .i64 i, .int .i64 g]] w fun e w' => e = .returned (.tuple #[.string ⟨r.toArray⟩, .int .i64 E]) ∧ Below w.heap.size w w' := by
  unfold encodeF at h
  split at h
  · cases h; rename_i h2; exact encode_yes k m l s t c i g w h2
  · cases h; rename_i h2; exact encode_no k m l s t c i g w (by simpa using h2)
theorem keyV (n : Int) (r : List UInt8) (w : World) (h : 105 :: wordL n = r) : Calls Try.prog 25 #[.int .i64 n] w fun e w' => e = .returned (.string ⟨r.toArray⟩) ∧ Below w.heap.size w w' := by
  subst h; exact key_any n w
theorem isV (k m l s t c i g x y z : Int) (b : Bool) (w : World) (h : (i == y && g == z) = b) : Calls Try.prog 17 #[.agg #[.int .u8 k, .int .i64 m, .int .i64 l, .int .i64 s, .int .i64 t, .int .i64 c, .int .i64 i, .int .i64 g], .agg #[.int .i64 x, .int .i64 y, .int .i64 z]] w fun e w' => e = .returned (.bool b) ∧ Below w.heap.size w w' := by
  subst h; exact is_any k m l s t c i g x y z w

set_option maxHeartbeats 2000000 in
theorem awake_any (w : World) : Calls Try.prog 18 #[] w fun e w' => e = .returned (.bool true) ∧ Below w.heap.size w w' := by
  go_enter Try.func18, Try.ntmps18
  go_wp2_with fail
  refine (newV 2 493 1 0 7 2 493 2 0 7 7 1 0 0 _ (by decide +kernel)).mono ?_
  rintro e w1 ⟨rfl, hb1⟩
  go_wp2_with fail
  refine (linkedV 2 493 2 0 7 7 1 0 (-1) 9 2 493 1 0 7 9 1 0 0 _ (by decide) (by decide) (by decide +kernel)).mono ?_
  rintro e w2 ⟨rfl, hb2⟩
  have A2 := (RowAt.new w1 23 [.int .u8 2, .int .i64 493, .int .i64 2, .int .i64 0, .int .i64 7, .int .i64 7, .int .i64 1, .int .i64 0]).next hb2
  have hw2 := btA hb1 hb2
  obtain ⟨a, ha⟩ : ∃ a, a = w1.heap.size := ⟨_, rfl⟩
  rw [← ha] at A2 ⊢
  clear ha hb1 hb2
  have p0 := A2.cell 0
  have p1 := A2.cell 1
  have p2 := A2.cell 2
  have p3 := A2.cell 3
  have p4 := A2.cell 4
  have p5 := A2.cell 5
  have p6 := A2.cell 6
  have p7 := A2.cell 7
  have pz := A2.lt
  simp at p0 p1 p2 p3 p4 p5 p6 p7
  go_wp2_with fail
  refine (sizedV 2 493 2 0 7 7 1 0 5 9 0 0 0 0 0 0 0 0 55 _ (by decide +kernel)).mono ?_
  rintro e w3 ⟨rfl, hb3⟩
  clear p0 p1 p2 p3 p4 p5 p6 p7 pz
  have A3 := (A2.alloc _).next hb3
  have B3 := (RowAt.new w2 23 [.int .u8 2, .int .i64 493, .int .i64 1, .int .i64 0, .int .i64 7, .int .i64 9, .int .i64 1, .int .i64 0]).next hb3
  have hw3 := btA hw2 hb3
  obtain ⟨b, hbe⟩ : ∃ b, b = w2.heap.size := ⟨_, rfl⟩
  rw [← hbe] at B3 ⊢
  clear hbe hb3 hw2 A2
  have p0 := A3.cell 0
  have p1 := A3.cell 1
  have p2 := A3.cell 2
  have p3 := A3.cell 3
  have p4 := A3.cell 4
  have p5 := A3.cell 5
  have p6 := A3.cell 6
  have p7 := A3.cell 7
  have pz := A3.lt
  simp at p0 p1 p2 p3 p4 p5 p6 p7
  go_wp2_with fail
  refine (encodeV 2 493 2 0 7 7 1 0 [2, 0, 0, 1, 237, 0, 0, 0, 2, 0, 0, 0, 0, 0, 0, 0, 7, 0, 0, 0, 7, 0, 0, 0, 1, 0, 0, 0, 0] 0 _ (by decide +kernel)).mono ?_
  rintro e w4 ⟨rfl, hb4⟩
  clear p0 p1 p2 p3 p4 p5 p6 p7 pz
  have A4 := (A3.alloc _).next hb4
  have B4 := (B3.alloc _).next hb4
  have hw4 := btA hw3 hb4
  clear hb4 hw3 A3 B3
  go_wp2_with fail
  refine (decodeV _ 2 493 2 0 7 7 1 0 0 _ (by decide +kernel)).mono ?_
  rintro e w5 ⟨rfl, hb5⟩
  have A5 := A4.next hb5
  have B5 := B4.next hb5
  have hw5 := bt hw4 hb5
  clear hb5 hw4 A4 B4
  have p0 := A5.cell 0
  have p1 := A5.cell 1
  have p2 := A5.cell 2
  have p3 := A5.cell 3
  have p4 := A5.cell 4
  have p5 := A5.cell 5
  have p6 := A5.cell 6
  have p7 := A5.cell 7
  have pz := A5.lt
  have qz := B5.lt
  have q2 := B5.cell 2
  have q4 := B5.cell 4
  have q5 := B5.cell 5
  simp at p0 p1 p2 p3 p4 p5 p6 p7 q2 q4 q5
  have C5 := RowAt.new w5 23 [.int .u8 2, .int .i64 493, .int .i64 2, .int .i64 0, .int .i64 7, .int .i64 7, .int .i64 1, .int .i64 0]
  clear p0 p1 p2 p3 p4 p5 p6 p7 q2 q4 q5 pz qz
  replace A5 := A5.alloc (.cells #[.int .u8 2, .int .i64 493, .int .i64 2, .int .i64 0, .int .i64 7, .int .i64 7, .int .i64 1, .int .i64 0] 23)
  replace B5 := B5.alloc (.cells #[.int .u8 2, .int .i64 493, .int .i64 2, .int .i64 0, .int .i64 7, .int .i64 7, .int .i64 1, .int .i64 0] 23)
  replace hw5 := bA hw5 (.cells #[.int .u8 2, .int .i64 493, .int .i64 2, .int .i64 0, .int .i64 7, .int .i64 7, .int .i64 1, .int .i64 0] 23)
  go_wp2_with fail
  obtain ⟨c, hce⟩ : ∃ c, c = w5.heap.size := ⟨_, rfl⟩
  rw [← hce] at C5 ⊢
  clear hce
  generalize w5.alloc (.cells #[.int .u8 2, .int .i64 493, .int .i64 2, .int .i64 0, .int .i64 7, .int .i64 7, .int .i64 1, .int .i64 0] 23) = W at *
  refine wp_region_bw W.heap.size (by kernel_rfl) (by kernel_rfl) ?_
  simp only [List.append_eq, List.cons_append, List.nil_append]
  have p0 := fun x : Bw W.heap.size W => (A5.next x.ok).cell 0
  have p1 := fun x : Bw W.heap.size W => (A5.next x.ok).cell 1
  have p2 := fun x : Bw W.heap.size W => (A5.next x.ok).cell 2
  have p3 := fun x : Bw W.heap.size W => (A5.next x.ok).cell 3
  have p4 := fun x : Bw W.heap.size W => (A5.next x.ok).cell 4
  have p5 := fun x : Bw W.heap.size W => (A5.next x.ok).cell 5
  have p6 := fun x : Bw W.heap.size W => (A5.next x.ok).cell 6
  have p7 := fun x : Bw W.heap.size W => (A5.next x.ok).cell 7
  have c0 := fun x : Bw W.heap.size W => (C5.next x.ok).cell 0
  have c1 := fun x : Bw W.heap.size W => (C5.next x.ok).cell 1
  have c2 := fun x : Bw W.heap.size W => (C5.next x.ok).cell 2
  have c3 := fun x : Bw W.heap.size W => (C5.next x.ok).cell 3
  have c4 := fun x : Bw W.heap.size W => (C5.next x.ok).cell 4
  have c5 := fun x : Bw W.heap.size W => (C5.next x.ok).cell 5
  have c6 := fun x : Bw W.heap.size W => (C5.next x.ok).cell 6
  have c7 := fun x : Bw W.heap.size W => (C5.next x.ok).cell 7
  have q2 := fun x : Bw W.heap.size W => (B5.next x.ok).cell 2
  have q4 := fun x : Bw W.heap.size W => (B5.next x.ok).cell 4
  have q5 := fun x : Bw W.heap.size W => (B5.next x.ok).cell 5
  simp at p0 p1 p2 p3 p4 p5 p6 p7 q2 q4 q5 c0 c1 c2 c3 c4 c5 c6 c7
  clear A5 B5 C5
  repeat (go_big_quiet_step (first | (go_at_call 25; exact Calls.bw (Nat.le_refl _) _ (keyV 1 [105, 0, 0, 0, 1] _ (by decide +kernel))) | (go_at_call 16; exact Calls.bw (Nat.le_refl _) _ (handle_any _ _ _ _ _ _ _ _ _ _)) | (go_at_call 17; exact Calls.bw (Nat.le_refl _) _ (isV _ _ _ _ _ _ _ _ _ _ _ true _ (by decide +kernel)))))
  refine wpQuiet_nil ?_
  rintro w' ⟨x, rfl⟩
  go_wp2
  go_ret
  exact ⟨rfl, bt hw5 x.ok⟩
end Go.Proofs.Ytochpjoanldfpaa
