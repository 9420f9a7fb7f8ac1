/- awake: the examples. -/
import Derived.Test.YtbkbfkaklhojgaaWi
namespace Go.Proofs.Ytbkbfkaklhojgaa
open Go.RowKit Go.Shelf
theorem TakeP.det {N last : Nat} {f : Nat → Nat} {r r' : Option Nat} (h : TakeP N last f r) (k : TakeP N last f r') : r = r' := by
  cases r with
  | none =>
    cases r' with
    | none => rfl
    | some y => exact absurd k.2.2.1 (h y k.1 k.2.1)
  | some x =>
    cases r' with
    | none => exact absurd h.2.2.1 (k x h.1 h.2.1)
    | some y =>
      obtain ⟨a1, a2, a3, a4⟩ := h
      obtain ⟨b1, b2, b3, b4⟩ := k
      congr 1
      rcases a4 with ⟨a4, a5⟩ | ⟨a4, a5, a6⟩
      · rcases b4 with ⟨b4, b5⟩ | ⟨b4, b5, b6⟩
        · rcases Nat.lt_trichotomy x y with h | h | h
          · exact absurd a3 (b5 x a4 a1 h)
          · exact h
          · exact absurd b3 (a5 y b4 b1 h)
        · exact absurd a3 (b5 x a4 a1 a2)
      · rcases b4 with ⟨b4, b5⟩ | ⟨b4, b5, b6⟩
        · exact absurd b3 (a5 y b4 b1 b2)
        · rcases Nat.lt_trichotomy x y with h | h | h
          · exact absurd a3 (b6 x a1 h)
          · exact h
          · exact absurd b3 (a6 y b1 h)
theorem take_at (w : World) (b N last : Nat) (f : Nat → Nat) (h : SI w b N last f) (hN0 : 2 ≤ N) (hN : N ≤ 8192) (hl : last < N) (x : Nat) (hx : TakeP N last f (some x)) :
    Calls Try.prog 8 #[.pointer (some ⟨b, 0, none⟩)] w fun e w' => e = .returned (.tuple #[.int .i64 x, .int .i64 0]) ∧ SI w' b N x (upd f x 2) ∧ Fr (· = b) w w' := by
  refine (take_any w b N last f h hN0 hN hl).mono ?_
  rintro e w' ⟨r, rfl, h1, h2, h3⟩
  rw [h1.det hx] at h2 ⊢
  exact ⟨rfl, h2, h3⟩
theorem take_full (w : World) (b N last : Nat) (f : Nat → Nat) (h : SI w b N last f) (hN0 : 2 ≤ N) (hN : N ≤ 8192) (hl : last < N) (hx : TakeP N last f none) :
    Calls Try.prog 8 #[.pointer (some ⟨b, 0, none⟩)] w fun e w' => e = .returned (.tuple #[.int .i64 0, .int .i64 3]) ∧ SI w' b N last f ∧ Fr (· = b) w w' := by
  refine (take_any w b N last f h hN0 hN hl).mono ?_
  rintro e w' ⟨r, rfl, h1, h2, h3⟩
  rw [h1.det hx] at h2 ⊢
  exact ⟨rfl, h2, h3⟩
theorem Below.fr {B : Nat} {M : Nat → Prop} {w W W' : World} (h : Below B w W) (hf : Fr M W W') (hB : B ≤ W.heap.size) (hm : ∀ k, M k → B ≤ k) : Below B w W' := h.trans (Fr.below hf hB hm)
/-- A space as it stands behind some block. -/
structure AS (w : World) (b N last : Nat) (f : Nat → Nat) (W : World) : Prop where
  si : SI W b N last f
  be : Below b w W
theorem AS.step {w : World} {b N last last' : Nat} {f f' : Nat → Nat} {W W' : World} (h : AS w b N last f W) (k : SI W' b N last' f') (hf : Fr (· = b) W W') : AS w b N last' f' W' := by
  refine ⟨k, Below.fr h.be hf (Nat.le_of_lt h.si.lt) (fun j e => Nat.le_of_eq e.symm)⟩
theorem AS.next {w : World} {b N last : Nat} {f : Nat → Nat} {W W' : World} (h : AS w b N last f W) (k : Below W.heap.size W W') : AS w b N last f W' :=
  ⟨h.si.next k, h.be.trans (k.mono (Nat.le_of_lt h.si.lt))⟩

def af1 : Nat → Nat := upd newF 2 2
def af2 : Nat → Nat := upd af1 3 2
def af3 : Nat → Nat := upd af2 2 0
def af4 : Nat → Nat := upd af3 4 2
def af5 : Nat → Nat := turnF 64 (turnF 64 af4 3 0) 2 1
def af6 : Nat → Nat := upd af5 3 3
def af7 : Nat → Nat := upd af6 5 2
def af8 : Nat → Nat := turnF 64 (turnF 64 af7 3 1) 2 0
def af9 : Nat → Nat := upd af8 3 3
def af10 : Nat → Nat := turnF 64 (turnF 64 af9 3 0) 2 1
set_option maxRecDepth 20000 in
set_option maxHeartbeats 4000000 in
theorem awake_any (w : World) : Calls Try.prog 6 #[] w fun e w' => e = .returned (.bool true) ∧ Below w.heap.size w w' := by
  have HN := Lib.hid (new_any w 64 (by decide) (by decide))
  obtain ⟨b, hb⟩ : ∃ b, b = w.heap.size := ⟨_, rfl⟩
  rw [← hb] at HN ⊢
  clear hb
  go_enter Try.func6, Try.ntmps6
  go_wp2_with fail
  refine HN.out.mono ?_
  rintro e w0 ⟨rfl, hs, hb⟩
  have HS : Hid (AS w b 64 0 newF w0) := Lib.hid ⟨hs, hb⟩
  clear hs hb HN
  go_wp2_with fail
  have hg := free_any w0 b 64 (0 : Nat) newF HS.out.si
  rw [show cnt 64 newF 0 = 62 from by kernel_rfl] at hg
  refine hg.mono ?_
  rintro e w' ⟨rfl, hw⟩
  rw [hw]
  clear hw
  clear hg
  go_wp2_with fail
  have hg := taken_any w0 b 64 (0 : Nat) newF HS.out.si (by decide) 0
  rw [show tkB 64 newF 0 = true from by kernel_rfl] at hg
  refine hg.mono ?_
  rintro e w1 ⟨rfl, hb⟩
  have HT : Hid (AS w b 64 0 newF w1) := Lib.hid (HS.out.next hb)
  clear hb HS hg
  have HS := HT
  clear HT
  go_wp2_with fail
  have hg := taken_any w1 b 64 (0 : Nat) newF HS.out.si (by decide) 1
  rw [show tkB 64 newF 1 = true from by kernel_rfl] at hg
  refine hg.mono ?_
  rintro e w2 ⟨rfl, hb⟩
  have HT : Hid (AS w b 64 0 newF w2) := Lib.hid (HS.out.next hb)
  clear hb HS hg
  have HS := HT
  clear HT
  go_wp2_with fail
  have hg := taken_any w2 b 64 (0 : Nat) newF HS.out.si (by decide) 2
  rw [show tkB 64 newF 2 = false from by kernel_rfl] at hg
  refine hg.mono ?_
  rintro e w3 ⟨rfl, hb⟩
  have HT : Hid (AS w b 64 0 newF w3) := Lib.hid (HS.out.next hb)
  clear hb HS hg
  have HS := HT
  clear HT
  go_wp2_with fail
  refine (take_at w3 b 64 0 newF HS.out.si (by decide) (by decide) (by decide) 2 ⟨by decide, by decide, by kernel_rfl, .inl ⟨by decide, by omega⟩⟩).mono ?_
  rintro e w4 ⟨rfl, hs, hf⟩
  have HT : Hid (AS w b 64 2 af1 w4) := Lib.hid (HS.out.step hs hf)
  clear hs hf HS
  have HS := HT
  clear HT
  go_wp2_with fail
  refine (take_at w4 b 64 2 af1 HS.out.si (by decide) (by decide) (by decide) 3 ⟨by decide, by decide, by kernel_rfl, .inl ⟨by decide, by omega⟩⟩).mono ?_
  rintro e w5 ⟨rfl, hs, hf⟩
  have HT : Hid (AS w b 64 3 af2 w5) := Lib.hid (HS.out.step hs hf)
  clear hs hf HS
  have HS := HT
  clear HT
  go_wp2_with fail
  have hg := give_any w5 b 64 (3 : Nat) af2 HS.out.si (by decide) 2
  rw [show giveE 64 af2 2 = 0 from by kernel_rfl, show giveF 64 af2 2 = af3 from rfl] at hg
  refine hg.mono ?_
  rintro e w6 ⟨rfl, hs, hf⟩
  have HT : Hid (AS w b 64 3 af3 w6) := Lib.hid (HS.out.step hs hf)
  clear hs hf HS hg
  have HS := HT
  clear HT
  go_wp2_with fail
  refine (take_at w6 b 64 3 af3 HS.out.si (by decide) (by decide) (by decide) 4 ⟨by decide, by decide, by kernel_rfl, .inl ⟨by decide, by omega⟩⟩).mono ?_
  rintro e w7 ⟨rfl, hs, hf⟩
  have HT : Hid (AS w b 64 4 af4 w7) := Lib.hid (HS.out.step hs hf)
  clear hs hf HS
  have HS := HT
  clear HT
  go_wp2_with fail
  refine (settle_any w7 b 64 (4 : Nat) af4 HS.out.si (by decide) (by decide)).mono ?_
  rintro e w8 ⟨rfl, hs, hf⟩
  have HT : Hid (AS w b 64 4 af5 w8) := Lib.hid (HS.out.step hs hf)
  clear hs hf HS
  have HS := HT
  clear HT
  go_wp2_with fail
  have hg := give_any w8 b 64 (4 : Nat) af5 HS.out.si (by decide) 3
  rw [show giveE 64 af5 3 = 0 from by kernel_rfl, show giveF 64 af5 3 = af6 from rfl] at hg
  refine hg.mono ?_
  rintro e w9 ⟨rfl, hs, hf⟩
  have HT : Hid (AS w b 64 4 af6 w9) := Lib.hid (HS.out.step hs hf)
  clear hs hf HS hg
  have HS := HT
  clear HT
  go_wp2_with fail
  refine (take_at w9 b 64 4 af6 HS.out.si (by decide) (by decide) (by decide) 5 ⟨by decide, by decide, by kernel_rfl, .inl ⟨by decide, by omega⟩⟩).mono ?_
  rintro e w10 ⟨rfl, hs, hf⟩
  have HT : Hid (AS w b 64 5 af7 w10) := Lib.hid (HS.out.step hs hf)
  clear hs hf HS
  have HS := HT
  clear HT
  go_wp2_with fail
  have hg := waits_any w10 b 64 (5 : Nat) af7 HS.out.si
  rw [show cnt 64 af7 3 = 1 from by kernel_rfl] at hg
  refine hg.mono ?_
  rintro e w' ⟨rfl, hw⟩
  rw [hw]
  clear hw
  clear hg
  go_wp2_with fail
  have hg := free_any w10 b 64 (5 : Nat) af7 HS.out.si
  rw [show cnt 64 af7 0 = 59 from by kernel_rfl] at hg
  refine hg.mono ?_
  rintro e w' ⟨rfl, hw⟩
  rw [hw]
  clear hw
  clear hg
  go_wp2_with fail
  refine (back_any w10 b 64 (5 : Nat) af7 HS.out.si (by decide) (by decide)).mono ?_
  rintro e w11 ⟨rfl, hs, hf⟩
  have HT : Hid (AS w b 64 5 af8 w11) := Lib.hid (HS.out.step hs hf)
  clear hs hf HS
  have HS := HT
  clear HT
  go_wp2_with fail
  have hg := taken_any w11 b 64 (5 : Nat) af8 HS.out.si (by decide) 3
  rw [show tkB 64 af8 3 = true from by kernel_rfl] at hg
  refine hg.mono ?_
  rintro e w12 ⟨rfl, hb⟩
  have HT : Hid (AS w b 64 5 af8 w12) := Lib.hid (HS.out.next hb)
  clear hb HS hg
  have HS := HT
  clear HT
  go_wp2_with fail
  have hg := taken_any w12 b 64 (5 : Nat) af8 HS.out.si (by decide) 5
  rw [show tkB 64 af8 5 = false from by kernel_rfl] at hg
  refine hg.mono ?_
  rintro e w13 ⟨rfl, hb⟩
  have HT : Hid (AS w b 64 5 af8 w13) := Lib.hid (HS.out.next hb)
  clear hb HS hg
  have HS := HT
  clear HT
  go_wp2_with fail
  have hg := give_any w13 b 64 (5 : Nat) af8 HS.out.si (by decide) 3
  rw [show giveE 64 af8 3 = 0 from by kernel_rfl, show giveF 64 af8 3 = af9 from rfl] at hg
  refine hg.mono ?_
  rintro e w14 ⟨rfl, hs, hf⟩
  have HT : Hid (AS w b 64 5 af9 w14) := Lib.hid (HS.out.step hs hf)
  clear hs hf HS hg
  have HS := HT
  clear HT
  go_wp2_with fail
  refine (settle_any w14 b 64 (5 : Nat) af9 HS.out.si (by decide) (by decide)).mono ?_
  rintro e w15 ⟨rfl, hs, hf⟩
  have HT : Hid (AS w b 64 5 af10 w15) := Lib.hid (HS.out.step hs hf)
  clear hs hf HS
  have HS := HT
  clear HT
  go_wp2_with fail
  have hg := taken_any w15 b 64 (5 : Nat) af10 HS.out.si (by decide) 3
  rw [show tkB 64 af10 3 = false from by kernel_rfl] at hg
  refine hg.mono ?_
  rintro e w16 ⟨rfl, hb⟩
  have HT : Hid (AS w b 64 5 af10 w16) := Lib.hid (HS.out.next hb)
  clear hb HS hg
  have HS := HT
  clear HT
  go_wp2_with fail
  have hg := free_any w16 b 64 (5 : Nat) af10 HS.out.si
  rw [show cnt 64 af10 0 = 61 from by kernel_rfl] at hg
  refine hg.mono ?_
  rintro e w' ⟨rfl, hw⟩
  rw [hw]
  clear hw
  clear hg
  go_wp2_with fail
  all_goals refine bodyPost_ret (by simp [results, Try.results6, go_sem]; rfl) rfl ?_
  all_goals exact ⟨rfl, HS.out.be⟩
end Go.Proofs.Ytbkbfkaklhojgaa
