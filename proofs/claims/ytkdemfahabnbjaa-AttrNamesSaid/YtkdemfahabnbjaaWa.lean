/- Contracts of attr.Plan, attr.Same and of the document's: each returns what planF, sameF say, for every input, and writes nothing that was there. -/
import Derived.Test.YtkdemfahabnbjaaProg
import Derived.Test.YtkdemfahabnbjaaFl
import Derived.WalkKit
import Derived.WalkLawsBesides
import Derived.WalkSpells
import Derived.Lib.Hide
namespace Go.Proofs.Ytkdemfahabnbjaa
open Go.RowKit

structure Att where
  k : Int
  m : Int
  l : Int
  s : Int
  t : Int
  c : Int
  i : Int
  g : Int
def Att.zero : Att := ⟨0, 0, 0, 0, 0, 0, 0, 0⟩
def Att.cells (a : Att) : Array Value := #[.int .u8 a.k, .int .i64 a.m, .int .i64 a.l, .int .i64 a.s, .int .i64 a.t, .int .i64 a.c, .int .i64 a.i, .int .i64 a.g]

def planF (a : Att) (mode size guard now : Int) : Att × Int :=
  if mode < -1 ∨ 4095 < mode ∨ size < -1 ∨ guard < -1 ∨ now < 0 ∨ 2147483647 < now then (Att.zero, 1)
  else if guard ≠ -1 ∧ guard ≠ a.c then (Att.zero, 59)
  else if size ≠ -1 ∧ a.k ≠ 1 then (Att.zero, 55)
  else if 32768 < size then (Att.zero, 40)
  else (⟨a.k, if mode ≠ -1 then mode else a.m, a.l, if size ≠ -1 then size else a.s, if size ≠ -1 then now else a.t, if mode ≠ -1 ∨ size ≠ -1 then now else a.c, a.i, a.g⟩, 0)

theorem below2 (w : World) (a b : Obj) : Below w.heap.size w ((w.alloc a).alloc b) := ((Below.refl _ _).alloc (Nat.le_refl _) _).alloc (by simp) _

def RetA (r : Att × Int) (w : World) (e : Ending) (w' : World) : Prop := e = .returned (.tuple #[.agg r.1.cells, .int .i64 r.2]) ∧ Below w.heap.size w w'
theorem retA_mk {k m l s t c i g E : Int} {r : Att × Int} {w w' : World} (h : r = (⟨k, m, l, s, t, c, i, g⟩, E)) (hb : Below w.heap.size w w') : RetA r w (.returned (.tuple #[.agg #[.int .u8 k, .int .i64 m, .int .i64 l, .int .i64 s, .int .i64 t, .int .i64 c, .int .i64 i, .int .i64 g], .int .i64 E])) w' := by
  subst h; exact ⟨rfl, hb⟩

set_option maxHeartbeats 4000000 in
theorem plan_any (k m l s t c i g mode size guard now : Int) (w : World) :
    Calls Try.prog 8 #[.agg #[.int .u8 k, .int .i64 m, .int .i64 l, .int .i64 s, .int .i64 t, .int .i64 c, .int .i64 i, .int .i64 g], .int .i64 mode, .int .i64 size, .int .i64 guard, .int .i64 now] w
      (RetA (planF ⟨k, m, l, s, t, c, i, g⟩ mode size guard now) w) := by
  go_enter Try.func8, Try.ntmps8
  go_wp2
  all_goals (refine bodyPost_ret (by simp [results, Try.results8, go_sem]; rfl) rfl ?_)
  all_goals (refine retA_mk ?_ (below2 ..))
  all_goals (grind [planF, Att.zero])

set_option maxHeartbeats 4000000 in
theorem planR_any (k m l s t c i g mode size guard now : Int) (w : World) :
    Calls Try.prog 9 #[.agg #[.int .u8 k, .int .i64 m, .int .i64 l, .int .i64 s, .int .i64 t, .int .i64 c, .int .i64 i, .int .i64 g], .int .i64 mode, .int .i64 size, .int .i64 guard, .int .i64 now] w
      (RetA (planF ⟨k, m, l, s, t, c, i, g⟩ mode size guard now) w) := by
  go_enter Try.func9, Try.ntmps9
  go_wp2
  all_goals (refine bodyPost_ret (by simp [results, Try.results9, go_sem]; rfl) rfl ?_)
  all_goals (refine retA_mk ?_ (below2 ..))
  all_goals (grind [planF, Att.zero])
def sameF (a b : Att) : Bool := a.k == b.k && a.m == b.m && a.l == b.l && a.s == b.s && a.i == b.i && a.g == b.g

def RetB (b : Bool) (w : World) (e : Ending) (w' : World) : Prop := e = .returned (.bool b) ∧ Below w.heap.size w w'
theorem retB_mk {b c : Bool} {w w' : World} (h : b = c) (hb : Below w.heap.size w w') : RetB b w (.returned (.bool c)) w' := by
  subst h; exact ⟨rfl, hb⟩

set_option maxHeartbeats 4000000 in
theorem same_any (k m l s t c i g k2 m2 l2 s2 t2 c2 i2 g2 : Int) (w : World) :
    Calls Try.prog 10 #[.agg #[.int .u8 k, .int .i64 m, .int .i64 l, .int .i64 s, .int .i64 t, .int .i64 c, .int .i64 i, .int .i64 g], .agg #[.int .u8 k2, .int .i64 m2, .int .i64 l2, .int .i64 s2, .int .i64 t2, .int .i64 c2, .int .i64 i2, .int .i64 g2]] w
      (RetB (sameF ⟨k, m, l, s, t, c, i, g⟩ ⟨k2, m2, l2, s2, t2, c2, i2, g2⟩) w) := by
  go_enter Try.func10, Try.ntmps10
  go_wp2
  all_goals (go_ret)
  all_goals (refine retB_mk ?_ (below2 ..))
  all_goals (grind [sameF])

set_option maxHeartbeats 4000000 in
theorem sameR_any (k m l s t c i g k2 m2 l2 s2 t2 c2 i2 g2 : Int) (w : World) :
    Calls Try.prog 11 #[.agg #[.int .u8 k, .int .i64 m, .int .i64 l, .int .i64 s, .int .i64 t, .int .i64 c, .int .i64 i, .int .i64 g], .agg #[.int .u8 k2, .int .i64 m2, .int .i64 l2, .int .i64 s2, .int .i64 t2, .int .i64 c2, .int .i64 i2, .int .i64 g2]] w
      (RetB (sameF ⟨k, m, l, s, t, c, i, g⟩ ⟨k2, m2, l2, s2, t2, c2, i2, g2⟩) w) := by
  go_enter Try.func11, Try.ntmps11
  go_wp2
  all_goals (go_ret)
  all_goals (refine retB_mk ?_ (below2 ..))
  all_goals (grind [sameF])
end Go.Proofs.Ytkdemfahabnbjaa
