/- keys, Rows, Same. -/
import Derived.Test.YtefjpljjdjecjaaWk
import Derived.Test.YtefjpljjdjecjaaAp
namespace Go.Proofs.Ytefjpljjdjecjaa
open Go.RowKit
def I64 (k : Int) : Value := .int .i64 k
/-- A slice of ints, none of its memory older than B. -/
def IntsAt (B : Nat) (l : List Int) (v : Value) (w : World) : Prop := ∃ a cap, v = .slice a l.length cap ∧ SliceAt w a l.length (l.map I64) ∧ (a = none → l.length = 0) ∧ ∀ x, a = some x → B ≤ x.block
theorem owned_ints {w : World} {base : Nat} {v : Value} {l : List Int} {e : TypeId} (h : w.ownsRow base e 1 v l.length (l.map I64)) : IntsAt base l v w := by
  obtain ⟨a, cap, rfl, h1⟩ := SliceAt.owned h
  refine ⟨a, cap, rfl, h1, ?_, ?_⟩
  · rintro rfl
    rcases h.2 with ⟨_, h2⟩ | ⟨g, cap, cur, h2, _⟩
    · exact h2
    · cases h2
  · rintro x rfl
    exact ownsRow_block h x.block rfl
theorem IntsAt.next {B : Nat} {l : List Int} {v : Value} {w w' : World} (h : IntsAt B l v w) (hb : Below w.heap.size w w') : IntsAt B l v w' := by
  obtain ⟨a, cap, rfl, h1, h2, h3⟩ := h
  exact ⟨a, cap, rfl, h1.next hb, h2, h3⟩
def slen : Value → Nat
  | .slice _ n _ => n
  | _ => 0
def keysL (L : List It) : List Int := L.map (·.key)
def KInv (w : World) (L : List It) (l x : Value) (wr : World) : Prop := ∃ L1 L2, x = ptr (nx L2 none) ∧ L = L1 ++ L2 ∧ wr.ownsRow w.heap.size 3 1 l L1.length ((keysL L1).map I64) ∧ Below w.heap.size w wr
theorem info3 : ∃ i z, Try.prog.info? 3 = some i ∧ i.zero = some z ∧ i.size = 1 ∧ i.bytes = 8 ∧ z.cells.size = 1 := ⟨_, _, rfl, rfl, rfl, rfl, rfl⟩
theorem Lk.split {w : World} {r : Int} {p n : Option Nat} {L1 L2 : List It} {x : It} (h : Lk w r p (L1 ++ x :: L2) n) : RowAt w x.b 73 (itCells x r (lastB L1 p) (nx L2 n)) := (Lk_append.1 h).2.1
set_option maxHeartbeats 2000000 in
theorem keys_any (w : World) (cb : Nat) (R : Nat → List It) (m : Value) (room target : Int) (h : RA w cb R m room target) (r : Nat) (hr : r < 4) :
    Calls Try.prog 31 #[.pointer (some ⟨cb, 0, none⟩), .int .i64 r] w fun e w' => ∃ v, e = .returned v ∧ IntsAt w.heap.size (keysL (R r)) v w' ∧ Below w.heap.size w w' := by
  obtain ⟨k0, _, _⟩ := cells_at R m room target r hr
  have c0 := (h.row.cell (r * 3)).trans k0
  have r0 : (0 : Int) ≤ (r : Int) := by omega
  have r1 : (r : Int) < 4 := by omega
  have H := Lib.hid (h.lk r hr)
  have hlen := h.len r hr
  obtain ⟨hd, hhd⟩ : ∃ hd, hd = ptr (nx (R r) none) := ⟨_, rfl⟩
  rw [← hhd] at c0
  have HH := Lib.hid hhd
  clear k0 h hhd
  generalize R r = L at *
  rename_i u1 u2
  clear u1 u2
  go_enter Try.func31, Try.ntmps31
  go_wp2_with fail
  go_loopw [5, 6] (fun l x wr => KInv w L l x wr) (fun l _ _ => L.length - slen l)
  case atStart => exact ⟨[], L, HH.out, rfl, World.ownsRow_nil _ _ _ _, Below.refl _ _⟩
  case round =>
    obtain ⟨L1, L2, hx, hR, hO, hB⟩ := hrel
    have HO := Lib.hid hO
    have HB := Lib.hid hB
    have HR := Lib.hid hR
    clear hO hB hR
    cases L2 with
    | nil =>
      simp only [nx, ptr] at hx
      subst hx
      go_wp2
      go_ret
      have e : L = L1 := by have := HR.out; rwa [List.append_nil] at this
      refine ⟨u5, rfl, owned_ints (e := 3) ?_, HB.out⟩
      rw [e, show (keysL L1).length = L1.length from by simp [keysL]]
      exact HO.out
    | cons y L3 =>
      simp only [nx, ptr] at hx
      subst hx
      have hrow : RowAt w y.b 73 (itCells y r (lastB L1 none) (nx L3 none)) := by
        have := H.out
        rw [HR.out] at this
        exact this.split
      have hrow2 := hrow.next HB.out
      have hal := (Below.refl wr.heap.size wr).alloc (Nat.le_refl _) (.cells #[.int .i64 y.key] 3)
      have hrow3 := hrow2.next hal
      have y0 := hrow2.cell 0
      simp [itCells] at y0
      have hnew : RowAt (wr.alloc (.cells #[.int .i64 y.key] 3)) wr.heap.size 3 [.int .i64 y.key] := RowAt.new wr 3 _
      obtain ⟨i, z, e1, e2, e3, e4, e5⟩ := info3
      have hll : L1.length + 1 ≤ 100000 := by
        have := congrArg List.length HR.out
        simp at this; omega
      obtain ⟨v', w', hrun, ho', hg', _, hb'⟩ := run_app (P := Try.prog) (wr.alloc (.cells #[.int .i64 y.key] 3)) w.heap.size 33 33 3 i z 8 Try.underlying33 e1 e2 e3 e4 e5 u5 L1.length _ (HO.out.alloc _) (some ⟨wr.heap.size, 0, none⟩) 1 1 [.int .i64 y.key] (SliceAt.row hnew) (fun h => by cases h) (fun u hu => by simp at hu; subst hu; rfl) (by unfold maxLen; omega) (by omega) (by simp; have := HB.out.size; omega)
      have hBw : Below w.heap.size w w' := (HB.out.alloc HB.out.size _).trans hb'
      have hrow4 := hrow.next hBw
      have y4 := hrow4.cell 4
      simp [itCells] at y4
      have HRUN := Lib.hid hrun
      have HO' := Lib.hid ho'
      have HBW := Lib.hid hBw
      obtain ⟨px, hpx⟩ : ∃ px, px = ptr (nx L3 none) := ⟨_, rfl⟩
      rw [← hpx] at y4
      have HPX := Lib.hid hpx
      clear hrow hrow2 hrow3 hrow4 hal hnew hrun ho' hg' hb' hBw e1 e2 e3 e4 e5 hpx
      have HLL := Lib.hid hll
      go_wp2_with (at_builtin; refine wpList_app rfl (.tmp 20) (.tmp 25) 33 33 rfl rfl HRUN.out rfl rfl ?_)
      go_roundw
      case rel =>
        refine ⟨L1 ++ [y], L3, HPX.out, by rw [HR.out]; simp, ?_, HBW.out⟩
        have := HO'.out
        simpa [keysL, I64] using this
      case measure =>
        obtain ⟨a1, c1, rfl, _⟩ := SliceAt.owned HO.out
        obtain ⟨a2, c2, rfl, _⟩ := SliceAt.owned HO'.out
        have := congrArg List.length HR.out
        simp at this
        simp [slen]; omega
end Go.Proofs.Ytefjpljjdjecjaa
