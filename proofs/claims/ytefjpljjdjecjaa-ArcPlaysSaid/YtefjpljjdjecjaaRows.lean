/-
  No cell of these rows narrows 'for every input' (looked for: loops, veiled, ifaces, maps, wideKeys, modest, calm, conditions, laid).
  DERIVED. THE GIVEN ROWS OF THIS SEAT. 6 by the template 'for every input the law returns true; each argument reads behind the call as it read before'; 0 by the template 'total and deterministic' (their statements: YtefjpljjdjecjaaTotals.lean).
  GIVEN WITH THE SEED: the statements are not yours to turn. If you find one false, say at which input.
  Laid BY PROGRAM, IN A SANDBOX (cutbox-rows.mjs): the forced cells as the released guide's own fill.sh prints them over the translation 5787ab60fca1cf18… (all of the seat's roots in one cut). By AI agents, Wed Nov 11 2026. No macro, syntax, notation, axiom, sorry.
-/
import Derived.Test.YtefjpljjdjecjaaChecked
import GoSem.Claim
import GoSem.ClaimJoined
import GoSem.ClaimMapViews
import Derived.JoinedTies
import Derived.KernelRfl
namespace Go.Proofs.Ytefjpljjdjecjaa
/- THE CELL 'sum', in the pinned program and in every row, IS THE sha256 OF THE DUMP (.gsa) THAT YtefjpljjdjecjaaProg.lean LOADS. Nothing in Lean hashes anything: it is a label: what it is worth is what the hold of that sum in a sandbox is worth. -/
noncomputable def Try.pinned : Pinned := { name := "ytefjpljjdjecjaa", sum := "5787ab60fca1cf18da5f4b6aa0800df060e6014c84493a19784130deaf6ba0df", checked := Try.checked }
namespace Rows
def none {H : Type} : Left H := { results := [], args := [] }

/-- 'jettylaw11.ArcAsked': WHATEVER THE INPUT: true; the input reads as it did. -/
def arcAskedSpec : ChangeSpec := { name := "arcAsked", fn := fun _ => fun
  | [d1, d2, d3] => { results := [.lit (.bool true)], args := [d1, d2, d3] }
  | _ => none }
def arcAskedRow : OpenClaim := { program := "ytefjpljjdjecjaa", sum := "5787ab60fca1cf18da5f4b6aa0800df060e6014c84493a19784130deaf6ba0df", func := "jetty/jettylaw11.ArcAsked", spec := "arcAsked", apart := false }
def ArcAskedSaid : Prop := arcAskedRow.holds Try.pinned (OpenSpec.ofChange arcAskedSpec)

/-- ITS FALSE NEIGHBOUR: 'it returns false'. Refute it at one input. -/
def arcAskedWrong : ChangeSpec := { name := "arcAsked", fn := fun _ => fun
  | [d1, d2, d3] => { results := [.lit (.bool false)], args := [d1, d2, d3] }
  | _ => none }
def ArcAskedWrongFalsely : Prop := arcAskedRow.holds Try.pinned (OpenSpec.ofChange arcAskedWrong)

/-- 'jettylaw11.ArcRoom': WHATEVER THE INPUT: true; the input reads as it did. -/
def arcRoomSpec : ChangeSpec := { name := "arcRoom", fn := fun _ => fun
  | [d1, d2] => { results := [.lit (.bool true)], args := [d1, d2] }
  | _ => none }
def arcRoomRow : OpenClaim := { program := "ytefjpljjdjecjaa", sum := "5787ab60fca1cf18da5f4b6aa0800df060e6014c84493a19784130deaf6ba0df", func := "jetty/jettylaw11.ArcRoom", spec := "arcRoom", apart := false }
def ArcRoomSaid : Prop := arcRoomRow.holds Try.pinned (OpenSpec.ofChange arcRoomSpec)

/-- ITS FALSE NEIGHBOUR: 'it returns false'. Refute it at one input. -/
def arcRoomWrong : ChangeSpec := { name := "arcRoom", fn := fun _ => fun
  | [d1, d2] => { results := [.lit (.bool false)], args := [d1, d2] }
  | _ => none }
def ArcRoomWrongFalsely : Prop := arcRoomRow.holds Try.pinned (OpenSpec.ofChange arcRoomWrong)

/-- 'jettylaw11.ArcBounds': WHATEVER THE INPUT: true; the input reads as it did. -/
def arcBoundsSpec : ChangeSpec := { name := "arcBounds", fn := fun _ => fun
  | [d1, d2] => { results := [.lit (.bool true)], args := [d1, d2] }
  | _ => none }
def arcBoundsRow : OpenClaim := { program := "ytefjpljjdjecjaa", sum := "5787ab60fca1cf18da5f4b6aa0800df060e6014c84493a19784130deaf6ba0df", func := "jetty/jettylaw11.ArcBounds", spec := "arcBounds", apart := false }
def ArcBoundsSaid : Prop := arcBoundsRow.holds Try.pinned (OpenSpec.ofChange arcBoundsSpec)

/-- ITS FALSE NEIGHBOUR: 'it returns false'. Refute it at one input. -/
def arcBoundsWrong : ChangeSpec := { name := "arcBounds", fn := fun _ => fun
  | [d1, d2] => { results := [.lit (.bool false)], args := [d1, d2] }
  | _ => none }
def ArcBoundsWrongFalsely : Prop := arcBoundsRow.holds Try.pinned (OpenSpec.ofChange arcBoundsWrong)

/-- 'jettylaw11.ArcOnce': WHATEVER THE INPUT: true; the input reads as it did. -/
def arcOnceSpec : ChangeSpec := { name := "arcOnce", fn := fun _ => fun
  | [d1, d2, d3] => { results := [.lit (.bool true)], args := [d1, d2, d3] }
  | _ => none }
def arcOnceRow : OpenClaim := { program := "ytefjpljjdjecjaa", sum := "5787ab60fca1cf18da5f4b6aa0800df060e6014c84493a19784130deaf6ba0df", func := "jetty/jettylaw11.ArcOnce", spec := "arcOnce", apart := false }
def ArcOnceSaid : Prop := arcOnceRow.holds Try.pinned (OpenSpec.ofChange arcOnceSpec)

/-- ITS FALSE NEIGHBOUR: 'it returns false'. Refute it at one input. -/
def arcOnceWrong : ChangeSpec := { name := "arcOnce", fn := fun _ => fun
  | [d1, d2, d3] => { results := [.lit (.bool false)], args := [d1, d2, d3] }
  | _ => none }
def ArcOnceWrongFalsely : Prop := arcOnceRow.holds Try.pinned (OpenSpec.ofChange arcOnceWrong)

/-- 'jettylaw11.ArcNames': WHATEVER THE INPUT: true; the input reads as it did. -/
def arcNamesSpec : ChangeSpec := { name := "arcNames", fn := fun _ => fun
  | [] => { results := [.lit (.bool true)], args := [] }
  | _ => none }
def arcNamesRow : OpenClaim := { program := "ytefjpljjdjecjaa", sum := "5787ab60fca1cf18da5f4b6aa0800df060e6014c84493a19784130deaf6ba0df", func := "jetty/jettylaw11.ArcNames", spec := "arcNames", apart := false }
def ArcNamesSaid : Prop := arcNamesRow.holds Try.pinned (OpenSpec.ofChange arcNamesSpec)

/-- ITS FALSE NEIGHBOUR: 'it returns false'. Refute it at one input. -/
def arcNamesWrong : ChangeSpec := { name := "arcNames", fn := fun _ => fun
  | [] => { results := [.lit (.bool false)], args := [] }
  | _ => none }
def ArcNamesWrongFalsely : Prop := arcNamesRow.holds Try.pinned (OpenSpec.ofChange arcNamesWrong)

/-- 'jettylaw11.ArcPlays': WHATEVER THE INPUT: true; the input reads as it did. -/
def arcPlaysSpec : ChangeSpec := { name := "arcPlays", fn := fun _ => fun
  | [d1, d2] => { results := [.lit (.bool true)], args := [d1, d2] }
  | _ => none }
def arcPlaysRow : OpenClaim := { program := "ytefjpljjdjecjaa", sum := "5787ab60fca1cf18da5f4b6aa0800df060e6014c84493a19784130deaf6ba0df", func := "jetty/jettylaw11.ArcPlays", spec := "arcPlays", apart := false }
def ArcPlaysSaid : Prop := arcPlaysRow.holds Try.pinned (OpenSpec.ofChange arcPlaysSpec)

/-- ITS FALSE NEIGHBOUR: 'it returns false'. Refute it at one input. -/
def arcPlaysWrong : ChangeSpec := { name := "arcPlays", fn := fun _ => fun
  | [d1, d2] => { results := [.lit (.bool false)], args := [d1, d2] }
  | _ => none }
def ArcPlaysWrongFalsely : Prop := arcPlaysRow.holds Try.pinned (OpenSpec.ofChange arcPlaysWrong)

/- THE SECOND FORM. 'bulk': how many values and letters a reading holds, each counted each time it is reached (what is shared counts as often as it is met; a slice's spare places count too). A statement '..UptoSaid' is the law's where the arguments, and the package variables that the reading takes, are together of bulk at most 1048576: NARROWER than '..Said'. Prove '..Said' where nothing that the law and all that it calls make is longer than what came in: it says more and counts as full. Else prove '..UptoSaid'. A law counts once. -/
mutual
def uptoBulk {H : Type} : DataW H → Nat
  | .lit (.string bytes) => bytes.length + 1
  | .lit _ => 1
  | .nil => 1
  | .ptr d => uptoBulk d + 1
  | .slice elems spare => uptoBulkAll elems + uptoBulkAll spare + 1
  | .agg parts => uptoBulkAll parts + 1
  | .iface _ d => uptoBulk d + 1
  | .map entries => uptoBulkEntries entries + 1
  | .held _ => 1
def uptoBulkAll {H : Type} : List (DataW H) → Nat
  | [] => 0
  | d :: r => uptoBulk d + uptoBulkAll r
def uptoBulkEntries {H : Type} : List (Lit × DataW H) → Nat
  | [] => 0
  | x :: r => uptoBulkEntry x + uptoBulkEntries r
def uptoBulkEntry {H : Type} : Lit × DataW H → Nat
  | (.string bytes, d) => bytes.length + uptoBulk d + 1
  | (_, d) => uptoBulk d + 1
 end
def uptoSmall : (H : Type) → List (DataW H) → Bool := fun _ ds => decide (uptoBulkAll ds ≤ 1048576)
def OpenSpec.upto (s : _root_.Go.ChangeSpec) : _root_.Go.OpenSpec := { _root_.Go.OpenSpec.ofChange s with cond := some uptoSmall }

/-- 'jettylaw11.ArcAsked', WHERE WHAT IT READS IS OF BULK AT MOST 1048576: true; the input reads as it did. -/
def arcAskedUptoRow : OpenClaim := { program := "ytefjpljjdjecjaa", sum := "5787ab60fca1cf18da5f4b6aa0800df060e6014c84493a19784130deaf6ba0df", func := "jetty/jettylaw11.ArcAsked", spec := "arcAsked", apart := false, narrowed := true }
def ArcAskedUptoSaid : Prop := arcAskedUptoRow.holds Try.pinned (OpenSpec.upto arcAskedSpec)

/-- 'jettylaw11.ArcRoom', WHERE WHAT IT READS IS OF BULK AT MOST 1048576: true; the input reads as it did. -/
def arcRoomUptoRow : OpenClaim := { program := "ytefjpljjdjecjaa", sum := "5787ab60fca1cf18da5f4b6aa0800df060e6014c84493a19784130deaf6ba0df", func := "jetty/jettylaw11.ArcRoom", spec := "arcRoom", apart := false, narrowed := true }
def ArcRoomUptoSaid : Prop := arcRoomUptoRow.holds Try.pinned (OpenSpec.upto arcRoomSpec)

/-- 'jettylaw11.ArcBounds', WHERE WHAT IT READS IS OF BULK AT MOST 1048576: true; the input reads as it did. -/
def arcBoundsUptoRow : OpenClaim := { program := "ytefjpljjdjecjaa", sum := "5787ab60fca1cf18da5f4b6aa0800df060e6014c84493a19784130deaf6ba0df", func := "jetty/jettylaw11.ArcBounds", spec := "arcBounds", apart := false, narrowed := true }
def ArcBoundsUptoSaid : Prop := arcBoundsUptoRow.holds Try.pinned (OpenSpec.upto arcBoundsSpec)

/-- 'jettylaw11.ArcOnce', WHERE WHAT IT READS IS OF BULK AT MOST 1048576: true; the input reads as it did. -/
def arcOnceUptoRow : OpenClaim := { program := "ytefjpljjdjecjaa", sum := "5787ab60fca1cf18da5f4b6aa0800df060e6014c84493a19784130deaf6ba0df", func := "jetty/jettylaw11.ArcOnce", spec := "arcOnce", apart := false, narrowed := true }
def ArcOnceUptoSaid : Prop := arcOnceUptoRow.holds Try.pinned (OpenSpec.upto arcOnceSpec)

/-- 'jettylaw11.ArcNames', WHERE WHAT IT READS IS OF BULK AT MOST 1048576: true; the input reads as it did. -/
def arcNamesUptoRow : OpenClaim := { program := "ytefjpljjdjecjaa", sum := "5787ab60fca1cf18da5f4b6aa0800df060e6014c84493a19784130deaf6ba0df", func := "jetty/jettylaw11.ArcNames", spec := "arcNames", apart := false, narrowed := true }
def ArcNamesUptoSaid : Prop := arcNamesUptoRow.holds Try.pinned (OpenSpec.upto arcNamesSpec)

/-- 'jettylaw11.ArcPlays', WHERE WHAT IT READS IS OF BULK AT MOST 1048576: true; the input reads as it did. -/
def arcPlaysUptoRow : OpenClaim := { program := "ytefjpljjdjecjaa", sum := "5787ab60fca1cf18da5f4b6aa0800df060e6014c84493a19784130deaf6ba0df", func := "jetty/jettylaw11.ArcPlays", spec := "arcPlays", apart := false, narrowed := true }
def ArcPlaysUptoSaid : Prop := arcPlaysUptoRow.holds Try.pinned (OpenSpec.upto arcPlaysSpec)

end Rows
end Go.Proofs.Ytefjpljjdjecjaa
