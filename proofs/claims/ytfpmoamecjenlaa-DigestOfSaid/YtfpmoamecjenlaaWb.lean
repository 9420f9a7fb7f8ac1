/- Contracts of Parse, by the program and by the document. -/
import Derived.Test.YtfpmoamecjenlaaWa
namespace Go.Proofs.Ytfpmoamecjenlaa
open Go.RowKit

def dig (c : Int) : Option Int := if 48 ≤ c ∧ c ≤ 57 then some (c - 48) else if 97 ≤ c ∧ c ≤ 102 then some (c - 97 + 10) else none
def pstep (u d : Int) : Int := bits .or .u64 (IntKind.u64.wrap (u * 16)) d
def pL (u : Int) : List UInt8 → Option Int
  | [] => some u
  | c :: t => match dig c.toNat with
    | some d => pL (pstep u d) t
    | none => none
def parseF (l : List UInt8) : Int × Int := if l.length = 16 then (match pL 0 l with | some u => (u, 0) | none => (0, 4)) else (0, 4)

def RetP (r : Int × Int) (w : World) (e : Ending) (w' : World) : Prop := e = .returned (.tuple #[.int .u64 r.1, .int .i64 r.2]) ∧ w = w'

theorem drop_at (s : ByteArray) (k : Nat) (h : k < s.size) : s.data.toList.drop k = s[k] :: s.data.toList.drop (k + 1) := by
  rw [List.drop_eq_getElem_cons (by simpa using h)]; rfl

theorem pL_good {u d : Int} {c : UInt8} {t : List UInt8} (h : dig c.toNat = some d) : pL u (c :: t) = pL (pstep u d) t := by simp [pL, h]
theorem pL_bad {u : Int} {c : UInt8} {t : List UInt8} (h : dig c.toNat = none) : pL u (c :: t) = none := by simp [pL, h]

set_option maxHeartbeats 1000000 in
theorem parse_any (s : ByteArray) (w : World) : Calls Try.prog 12 #[.string s] w (RetP (parseF s.data.toList) w) := by

  by_cases h16 : s.size = 16
  · have h1 : (((s.size : Nat) : Int) != 16) = false := by simp [h16]
    have HS := Lib.hid h16
    clear h16
    go_enter Try.func12, Try.ntmps12
    go_wp2
    go_loop [4, 10] (fun x i => ∃ k : Nat, k ≤ 16 ∧ i = .int .i64 k ∧ ∃ u, x = .int .u64 u ∧ Hid (pL 0 s.data.toList = pL u (s.data.toList.drop k))) (fun _ i => 16 - (intOf i).toNat)
    case atStart => exact ⟨0, by omega, rfl, 0, rfl, by show pL _ _ = pL _ _; rw [List.drop_zero]⟩
    case round =>
      obtain ⟨k, hk, rfl, u, rfl, hp⟩ := hrel
      by_cases hlt : k < 16
      · have hks : k < s.size := by have := HS.out; omega
        have hp2 := hp.out
        rw [drop_at s k hks] at hp2
        obtain ⟨c, hc⟩ : ∃ c, c = s[k] := ⟨_, rfl⟩
        rw [← hc] at hp2
        have HP := Lib.hid hp2
        clear hp hp2
        have hidx : ∀ w, (Instr.index 9 (.string s) (.int .i64 k)).run Try.prog w = .ok (.int .u8 c.toNat) w := by
          intro w; rw [hc]; simp [go_sem, hks]
        clear hc
        have hc2 : c.toNat < 256 := c.toNat_lt
        have hcases : (48 ≤ c.toNat ∧ c.toNat ≤ 57) ∨ (97 ≤ c.toNat ∧ c.toNat ≤ 102) ∨ (c.toNat < 48) ∨ (57 < c.toNat ∧ c.toNat < 97) ∨ 102 < c.toNat := by omega
        rcases hcases with ⟨d1, d2⟩ | ⟨d1, d2⟩ | d1 | ⟨d1, d2⟩ | d1
        · have HD := Lib.hid (show dig c.toNat = some ((c.toNat : Int) - 48) by unfold dig; rw [if_pos ⟨by omega, by omega⟩])
          go_wp2
          go_round
          case rel => exact ⟨k + 1, by omega, by go_num, _, rfl, by show pL _ _ = pL _ _; rw [HP.out, pL_good HD.out]; rfl⟩
          case measure => simp [intOf]; omega
        · have HD := Lib.hid (show dig c.toNat = some ((c.toNat : Int) - 97 + 10) by unfold dig; rw [if_neg (by omega), if_pos ⟨by omega, by omega⟩])
          go_wp2
          go_round
          case rel => exact ⟨k + 1, by omega, by go_num, _, rfl, by show pL _ _ = pL _ _; rw [HP.out, pL_good HD.out]; rfl⟩
          case measure => simp [intOf]; omega
        all_goals
          have HD := Lib.hid (show dig c.toNat = none by unfold dig; rw [if_neg (by omega), if_neg (by omega)])
          go_wp2
          go_ret2
          exact ⟨by rw [parseF, if_pos (by have := HS.out; simpa using this), HP.out, pL_bad HD.out]; rfl, rfl⟩
      · obtain rfl : k = 16 := by omega
        go_wp2
        go_ret2
        exact ⟨by rw [parseF, if_pos (by have := HS.out; simpa using this), hp.out, List.drop_of_length_le (by have := HS.out; simp; omega)]; rfl, rfl⟩
  · have h1 : (((s.size : Nat) : Int) != 16) = true := by simp; omega
    have HS := Lib.hid h16
    clear h16
    go_enter Try.func12, Try.ntmps12
    go_wp2
    go_ret2
    exact ⟨by rw [parseF, if_neg (by have := HS.out; simpa using this)]; rfl, rfl⟩

set_option maxHeartbeats 1000000 in
theorem parseR_any (s : ByteArray) (w : World) : Calls Try.prog 13 #[.string s] w (RetP (parseF s.data.toList) w) := by

  by_cases h16 : s.size = 16
  · have h1 : (((s.size : Nat) : Int) != 16) = false := by simp [h16]
    have HS := Lib.hid h16
    clear h16
    go_enter Try.func13, Try.ntmps13
    go_wp2
    go_loop [4, 5] (fun x i => ∃ k : Nat, k ≤ 16 ∧ i = .int .i64 k ∧ ∃ u, x = .int .u64 u ∧ Hid (pL 0 s.data.toList = pL u (s.data.toList.drop k))) (fun _ i => 16 - (intOf i).toNat)
    case atStart => exact ⟨0, by omega, rfl, 0, rfl, by show pL _ _ = pL _ _; rw [List.drop_zero]⟩
    case round =>
      obtain ⟨k, hk, rfl, u, rfl, hp⟩ := hrel
      by_cases hlt : k < 16
      · have hks : k < s.size := by have := HS.out; omega
        have hp2 := hp.out
        rw [drop_at s k hks] at hp2
        obtain ⟨c, hc⟩ : ∃ c, c = s[k] := ⟨_, rfl⟩
        rw [← hc] at hp2
        have HP := Lib.hid hp2
        clear hp hp2
        have hidx : ∀ w, (Instr.index 9 (.string s) (.int .i64 k)).run Try.prog w = .ok (.int .u8 c.toNat) w := by
          intro w; rw [hc]; simp [go_sem, hks]
        clear hc
        have hc2 : c.toNat < 256 := c.toNat_lt
        have hcases : (48 ≤ c.toNat ∧ c.toNat ≤ 57) ∨ (97 ≤ c.toNat ∧ c.toNat ≤ 102) ∨ (c.toNat < 48) ∨ (57 < c.toNat ∧ c.toNat < 97) ∨ 102 < c.toNat := by omega
        rcases hcases with ⟨d1, d2⟩ | ⟨d1, d2⟩ | d1 | ⟨d1, d2⟩ | d1
        · have HD := Lib.hid (show dig c.toNat = some ((c.toNat : Int) - 48) by unfold dig; rw [if_pos ⟨by omega, by omega⟩])
          go_wp2
          go_round
          case rel => exact ⟨k + 1, by omega, by go_num, _, rfl, by show pL _ _ = pL _ _; rw [HP.out, pL_good HD.out]; rfl⟩
          case measure => simp [intOf]; omega
        · have HD := Lib.hid (show dig c.toNat = some ((c.toNat : Int) - 97 + 10) by unfold dig; rw [if_neg (by omega), if_pos ⟨by omega, by omega⟩])
          go_wp2
          go_round
          case rel => exact ⟨k + 1, by omega, by go_num, _, rfl, by show pL _ _ = pL _ _; rw [HP.out, pL_good HD.out]; rfl⟩
          case measure => simp [intOf]; omega
        all_goals
          have HD := Lib.hid (show dig c.toNat = none by unfold dig; rw [if_neg (by omega), if_neg (by omega)])
          go_wp2
          go_ret2
          exact ⟨by rw [parseF, if_pos (by have := HS.out; simpa using this), HP.out, pL_bad HD.out]; rfl, rfl⟩
      · obtain rfl : k = 16 := by omega
        go_wp2
        go_ret2
        exact ⟨by rw [parseF, if_pos (by have := HS.out; simpa using this), hp.out, List.drop_of_length_le (by have := HS.out; simp; omega)]; rfl, rfl⟩
  · have h1 : (((s.size : Nat) : Int) != 16) = true := by simp; omega
    have HS := Lib.hid h16
    clear h16
    go_enter Try.func13, Try.ntmps13
    go_wp2
    go_ret2
    exact ⟨by rw [parseF, if_neg (by have := HS.out; simpa using this)]; rfl, rfl⟩
end Go.Proofs.Ytfpmoamecjenlaa
