/-
  No cell of these rows narrows 'for every input' (looked for: loops, veiled, ifaces, maps, wideKeys, modest, calm, conditions, laid).
  DERIVED. THE GIVEN ROWS OF THIS SEAT. 5 by the template 'for every input the law returns true; each argument reads behind the call as it read before'; 0 by the template 'total and deterministic' (their statements: YtkdemfahabnbjaaTotals.lean).
  GIVEN WITH THE SEED: the statements are not yours to turn. If you find one false, say at which input.
  Laid BY PROGRAM, IN A SANDBOX (cutbox-rows.mjs): the forced cells as the released guide's own fill.sh prints them over the translation 056ae47c6b89294c… (all of the seat's roots in one cut). By AI agents, Wed Nov 11 2026. No macro, syntax, notation, axiom, sorry.
-/
import Derived.Test.YtkdemfahabnbjaaChecked
import GoSem.Claim
import GoSem.ClaimJoined
import GoSem.ClaimMapViews
import Derived.JoinedTies
import Derived.KernelRfl
namespace Go.Proofs.Ytkdemfahabnbjaa
/- THE CELL 'sum', in the pinned program and in every row, IS THE sha256 OF THE DUMP (.gsa) THAT YtkdemfahabnbjaaProg.lean LOADS. Nothing in Lean hashes anything: it is a label: what it is worth is what the hold of that sum in a sandbox is worth. -/
noncomputable def Try.pinned : Pinned := { name := "ytkdemfahabnbjaa", sum := "056ae47c6b89294c5a1f989d69c73ab46990b7c53a2e967ddbc238a1b10bc3da", checked := Try.checked }
namespace Rows
def none {H : Type} : Left H := { results := [], args := [] }

/-- 'jettylaw26.AttrPlans': WHATEVER THE INPUT: true; the input reads as it did. -/
def attrPlansSpec : ChangeSpec := { name := "attrPlans", fn := fun _ => fun
  | [d1, d2, d3, d4, d5, d6] => { results := [.lit (.bool true)], args := [d1, d2, d3, d4, d5, d6] }
  | _ => none }
def attrPlansRow : OpenClaim := { program := "ytkdemfahabnbjaa", sum := "056ae47c6b89294c5a1f989d69c73ab46990b7c53a2e967ddbc238a1b10bc3da", func := "jetty/jettylaw26.AttrPlans", spec := "attrPlans", inPlace := ["math.Float64bits", "math.Float64frombits"], unfollowed := true, recurses := true, apart := false }
def AttrPlansSaid : Prop := attrPlansRow.holds Try.pinned (OpenSpec.ofChange attrPlansSpec)

/-- ITS FALSE NEIGHBOUR: 'it returns false'. Refute it at one input. -/
def attrPlansWrong : ChangeSpec := { name := "attrPlans", fn := fun _ => fun
  | [d1, d2, d3, d4, d5, d6] => { results := [.lit (.bool false)], args := [d1, d2, d3, d4, d5, d6] }
  | _ => none }
def AttrPlansWrongFalsely : Prop := attrPlansRow.holds Try.pinned (OpenSpec.ofChange attrPlansWrong)

/-- 'jettylaw26.AttrFloats': WHATEVER THE INPUT: true; the input reads as it did. -/
def attrFloatsSpec : ChangeSpec := { name := "attrFloats", fn := fun _ => fun
  | [d1, d2, d3, d4, d5] => { results := [.lit (.bool true)], args := [d1, d2, d3, d4, d5] }
  | _ => none }
def attrFloatsRow : OpenClaim := { program := "ytkdemfahabnbjaa", sum := "056ae47c6b89294c5a1f989d69c73ab46990b7c53a2e967ddbc238a1b10bc3da", func := "jetty/jettylaw26.AttrFloats", spec := "attrFloats", inPlace := ["math.Float64bits", "math.Float64frombits"], unfollowed := true, recurses := true, apart := false }
def AttrFloatsSaid : Prop := attrFloatsRow.holds Try.pinned (OpenSpec.ofChange attrFloatsSpec)

/-- ITS FALSE NEIGHBOUR: 'it returns false'. Refute it at one input. -/
def attrFloatsWrong : ChangeSpec := { name := "attrFloats", fn := fun _ => fun
  | [d1, d2, d3, d4, d5] => { results := [.lit (.bool false)], args := [d1, d2, d3, d4, d5] }
  | _ => none }
def AttrFloatsWrongFalsely : Prop := attrFloatsRow.holds Try.pinned (OpenSpec.ofChange attrFloatsWrong)

/-- 'jettylaw26.AttrNames': WHATEVER THE INPUT: true; the input reads as it did. -/
def attrNamesSpec : ChangeSpec := { name := "attrNames", fn := fun _ => fun
  | [] => { results := [.lit (.bool true)], args := [] }
  | _ => none }
def attrNamesRow : OpenClaim := { program := "ytkdemfahabnbjaa", sum := "056ae47c6b89294c5a1f989d69c73ab46990b7c53a2e967ddbc238a1b10bc3da", func := "jetty/jettylaw26.AttrNames", spec := "attrNames", inPlace := ["math.Float64bits", "math.Float64frombits"], unfollowed := true, recurses := true, apart := false }
def AttrNamesSaid : Prop := attrNamesRow.holds Try.pinned (OpenSpec.ofChange attrNamesSpec)

/-- ITS FALSE NEIGHBOUR: 'it returns false'. Refute it at one input. -/
def attrNamesWrong : ChangeSpec := { name := "attrNames", fn := fun _ => fun
  | [] => { results := [.lit (.bool false)], args := [] }
  | _ => none }
def AttrNamesWrongFalsely : Prop := attrNamesRow.holds Try.pinned (OpenSpec.ofChange attrNamesWrong)

/-- 'jettylaw26.AttrTwice': WHATEVER THE INPUT: true; the input reads as it did. -/
def attrTwiceSpec : ChangeSpec := { name := "attrTwice", fn := fun _ => fun
  | [d1, d2, d3, d4, d5] => { results := [.lit (.bool true)], args := [d1, d2, d3, d4, d5] }
  | _ => none }
def attrTwiceRow : OpenClaim := { program := "ytkdemfahabnbjaa", sum := "056ae47c6b89294c5a1f989d69c73ab46990b7c53a2e967ddbc238a1b10bc3da", func := "jetty/jettylaw26.AttrTwice", spec := "attrTwice", inPlace := ["math.Float64bits", "math.Float64frombits"], unfollowed := true, recurses := true, apart := false }
def AttrTwiceSaid : Prop := attrTwiceRow.holds Try.pinned (OpenSpec.ofChange attrTwiceSpec)

/-- ITS FALSE NEIGHBOUR: 'it returns false'. Refute it at one input. -/
def attrTwiceWrong : ChangeSpec := { name := "attrTwice", fn := fun _ => fun
  | [d1, d2, d3, d4, d5] => { results := [.lit (.bool false)], args := [d1, d2, d3, d4, d5] }
  | _ => none }
def AttrTwiceWrongFalsely : Prop := attrTwiceRow.holds Try.pinned (OpenSpec.ofChange attrTwiceWrong)

/-- 'jettylaw26.AttrParts': WHATEVER THE INPUT: true; the input reads as it did. -/
def attrPartsSpec : ChangeSpec := { name := "attrParts", fn := fun _ => fun
  | [d1, d2, d3, d4] => { results := [.lit (.bool true)], args := [d1, d2, d3, d4] }
  | _ => none }
def attrPartsRow : OpenClaim := { program := "ytkdemfahabnbjaa", sum := "056ae47c6b89294c5a1f989d69c73ab46990b7c53a2e967ddbc238a1b10bc3da", func := "jetty/jettylaw26.AttrParts", spec := "attrParts", inPlace := ["math.Float64bits", "math.Float64frombits"], unfollowed := true, recurses := true, apart := false }
def AttrPartsSaid : Prop := attrPartsRow.holds Try.pinned (OpenSpec.ofChange attrPartsSpec)

/-- ITS FALSE NEIGHBOUR: 'it returns false'. Refute it at one input. -/
def attrPartsWrong : ChangeSpec := { name := "attrParts", fn := fun _ => fun
  | [d1, d2, d3, d4] => { results := [.lit (.bool false)], args := [d1, d2, d3, d4] }
  | _ => none }
def AttrPartsWrongFalsely : Prop := attrPartsRow.holds Try.pinned (OpenSpec.ofChange attrPartsWrong)

/- THE SECOND FORM. 'bulk': how many values and letters a reading holds, each counted each time it is reached (what is shared counts as often as it is met; a slice's spare places count too). A statement '..UptoSaid' is the law's where the arguments, and the package variables that the reading takes, are together of bulk at most 1048576: NARROWER than '..Said'. Prove '..Said' where nothing that the law and all that it calls make is longer than what came in: it says more and counts as full. Else prove '..UptoSaid'. A law counts once. -/
mutual
def uptoBulk {H : Type} : DataW H → Nat
  | .lit (.string bytes) => bytes.length + 1
  | .lit _ => 1
  | .nil => 1
  | .ptr d => uptoBulk d + 1
  | .slice elems spare => uptoBulkAll elems + uptoBulkAll spare + 1
  | .agg parts => uptoBulkAll parts + 1
  | .iface _ d => uptoBulk d + 1
  | .map entries => uptoBulkEntries entries + 1
  | .held _ => 1
def uptoBulkAll {H : Type} : List (DataW H) → Nat
  | [] => 0
  | d :: r => uptoBulk d + uptoBulkAll r
def uptoBulkEntries {H : Type} : List (Lit × DataW H) → Nat
  | [] => 0
  | x :: r => uptoBulkEntry x + uptoBulkEntries r
def uptoBulkEntry {H : Type} : Lit × DataW H → Nat
  | (.string bytes, d) => bytes.length + uptoBulk d + 1
  | (_, d) => uptoBulk d + 1
 end
def uptoSmall : (H : Type) → List (DataW H) → Bool := fun _ ds => decide (uptoBulkAll ds ≤ 1048576)
def OpenSpec.upto (s : _root_.Go.ChangeSpec) : _root_.Go.OpenSpec := { _root_.Go.OpenSpec.ofChange s with cond := some uptoSmall }

/-- 'jettylaw26.AttrPlans', WHERE WHAT IT READS IS OF BULK AT MOST 1048576: true; the input reads as it did. -/
def attrPlansUptoRow : OpenClaim := { program := "ytkdemfahabnbjaa", sum := "056ae47c6b89294c5a1f989d69c73ab46990b7c53a2e967ddbc238a1b10bc3da", func := "jetty/jettylaw26.AttrPlans", spec := "attrPlans", inPlace := ["math.Float64bits", "math.Float64frombits"], unfollowed := true, recurses := true, apart := false, narrowed := true }
def AttrPlansUptoSaid : Prop := attrPlansUptoRow.holds Try.pinned (OpenSpec.upto attrPlansSpec)

/-- 'jettylaw26.AttrFloats', WHERE WHAT IT READS IS OF BULK AT MOST 1048576: true; the input reads as it did. -/
def attrFloatsUptoRow : OpenClaim := { program := "ytkdemfahabnbjaa", sum := "056ae47c6b89294c5a1f989d69c73ab46990b7c53a2e967ddbc238a1b10bc3da", func := "jetty/jettylaw26.AttrFloats", spec := "attrFloats", inPlace := ["math.Float64bits", "math.Float64frombits"], unfollowed := true, recurses := true, apart := false, narrowed := true }
def AttrFloatsUptoSaid : Prop := attrFloatsUptoRow.holds Try.pinned (OpenSpec.upto attrFloatsSpec)

/-- 'jettylaw26.AttrNames', WHERE WHAT IT READS IS OF BULK AT MOST 1048576: true; the input reads as it did. -/
def attrNamesUptoRow : OpenClaim := { program := "ytkdemfahabnbjaa", sum := "056ae47c6b89294c5a1f989d69c73ab46990b7c53a2e967ddbc238a1b10bc3da", func := "jetty/jettylaw26.AttrNames", spec := "attrNames", inPlace := ["math.Float64bits", "math.Float64frombits"], unfollowed := true, recurses := true, apart := false, narrowed := true }
def AttrNamesUptoSaid : Prop := attrNamesUptoRow.holds Try.pinned (OpenSpec.upto attrNamesSpec)

/-- 'jettylaw26.AttrTwice', WHERE WHAT IT READS IS OF BULK AT MOST 1048576: true; the input reads as it did. -/
def attrTwiceUptoRow : OpenClaim := { program := "ytkdemfahabnbjaa", sum := "056ae47c6b89294c5a1f989d69c73ab46990b7c53a2e967ddbc238a1b10bc3da", func := "jetty/jettylaw26.AttrTwice", spec := "attrTwice", inPlace := ["math.Float64bits", "math.Float64frombits"], unfollowed := true, recurses := true, apart := false, narrowed := true }
def AttrTwiceUptoSaid : Prop := attrTwiceUptoRow.holds Try.pinned (OpenSpec.upto attrTwiceSpec)

/-- 'jettylaw26.AttrParts', WHERE WHAT IT READS IS OF BULK AT MOST 1048576: true; the input reads as it did. -/
def attrPartsUptoRow : OpenClaim := { program := "ytkdemfahabnbjaa", sum := "056ae47c6b89294c5a1f989d69c73ab46990b7c53a2e967ddbc238a1b10bc3da", func := "jetty/jettylaw26.AttrParts", spec := "attrParts", inPlace := ["math.Float64bits", "math.Float64frombits"], unfollowed := true, recurses := true, apart := false, narrowed := true }
def AttrPartsUptoSaid : Prop := attrPartsUptoRow.holds Try.pinned (OpenSpec.upto attrPartsSpec)

end Rows
end Go.Proofs.Ytkdemfahabnbjaa
