/-
  NARROWER THAN 'FOR EVERY INPUT', by the rows' own cells (each row's printed sentence says how): InflateReads: laid · InflateBlocks: laid · InflateBounds: laid · InflateFixed: laid · InflateTells: laid.
  DERIVED. THE GIVEN ROWS OF THIS SEAT. 5 by the template 'for every input the law returns true; each argument reads behind the call as it read before'; 0 by the template 'total and deterministic' (their statements: YtnebigjgnfbcjaaDoorTotals.lean).
  GIVEN WITH THE SEED: the statements are not yours to turn. If you find one false, say at which input.
  Laid BY PROGRAM, IN A SANDBOX (cutbox-rows.mjs): the forced cells as the released guide's own fill.sh prints them over the translation 7169e273fa3e2a4d… (all of the seat's roots in one cut). By AI agents, Wed Nov 11 2026. No macro, syntax, notation, axiom, sorry.
-/
import Derived.Test.YtnebigjgnfbcjaaDoorChecked
import GoSem.Claim
import GoSem.ClaimJoined
import GoSem.ClaimMapViews
import Derived.JoinedTies
import Derived.KernelRfl
namespace Go.Proofs.YtnebigjgnfbcjaaDoor
/- THE CELL 'sum', in the pinned program and in every row, IS THE sha256 OF THE DUMP (.gsa) THAT YtnebigjgnfbcjaaDoorProg.lean LOADS. Nothing in Lean hashes anything: it is a label: what it is worth is what the hold of that sum in a sandbox is worth. -/
noncomputable def Tryd.pinned : Pinned := { name := "ytnebigjgnfbcjaadoor", sum := "7169e273fa3e2a4def2610f4bc109252250f407c13deb89c8ed9c4f4d0ef9868", checked := Tryd.checked }
namespace Rows
def none {H : Type} : Left H := { results := [], args := [] }

/- WHAT THE LISTED PACKAGE-LEVEL VARIABLES READ AS WHEN THE CALL BEGINS. Each datum BY PROGRAM (the guide's laid-datum.mjs) off the statement by which the dump's own 'gosem.cut.vars' lays the variable. In a bare row this is a premise. The card (YtnebigjgnfbcjaaDoorCards.lean) ties it to the program's text. -/
def laid_duffel_dyn_order {H : Type} : DataW H := .agg [.lit (.int .i64 16), .lit (.int .i64 17), .lit (.int .i64 18), .lit (.int .i64 0), .lit (.int .i64 8), .lit (.int .i64 7), .lit (.int .i64 9), .lit (.int .i64 6), .lit (.int .i64 10), .lit (.int .i64 5), .lit (.int .i64 11), .lit (.int .i64 4), .lit (.int .i64 12), .lit (.int .i64 3), .lit (.int .i64 13), .lit (.int .i64 2), .lit (.int .i64 14), .lit (.int .i64 1), .lit (.int .i64 15)]

/-- 'duffellaw18.InflateReads': WHATEVER THE INPUT: true; the input reads as it did. -/
def inflateReadsSpec : ChangeSpec := { name := "inflateReads", fn := fun _ => fun
  | [d1, d2, d3] => { results := [.lit (.bool true)], args := [d1, d2, d3] }
  | _ => none }
def inflateReadsRow : OpenClaim := { program := "ytnebigjgnfbcjaadoor", sum := "7169e273fa3e2a4def2610f4bc109252250f407c13deb89c8ed9c4f4d0ef9868", func := "duffel/duffellaw18.InflateReads", spec := "inflateReads", named := ["duffel/dyn.order"], apart := false, laid := [("duffel/dyn.order", laid_duffel_dyn_order)] }
def InflateReadsSaid : Prop := inflateReadsRow.holds Tryd.pinned (OpenSpec.ofChange inflateReadsSpec)

/-- ITS FALSE NEIGHBOUR: 'it returns false'. Refute it at one input. -/
def inflateReadsWrong : ChangeSpec := { name := "inflateReads", fn := fun _ => fun
  | [d1, d2, d3] => { results := [.lit (.bool false)], args := [d1, d2, d3] }
  | _ => none }
def InflateReadsWrongFalsely : Prop := inflateReadsRow.holds Tryd.pinned (OpenSpec.ofChange inflateReadsWrong)

/-- 'duffellaw18.InflateBlocks': WHATEVER THE INPUT: true; the input reads as it did. -/
def inflateBlocksSpec : ChangeSpec := { name := "inflateBlocks", fn := fun _ => fun
  | [d1, d2, d3, d4] => { results := [.lit (.bool true)], args := [d1, d2, d3, d4] }
  | _ => none }
def inflateBlocksRow : OpenClaim := { program := "ytnebigjgnfbcjaadoor", sum := "7169e273fa3e2a4def2610f4bc109252250f407c13deb89c8ed9c4f4d0ef9868", func := "duffel/duffellaw18.InflateBlocks", spec := "inflateBlocks", named := ["duffel/dyn.order"], apart := false, laid := [("duffel/dyn.order", laid_duffel_dyn_order)] }
def InflateBlocksSaid : Prop := inflateBlocksRow.holds Tryd.pinned (OpenSpec.ofChange inflateBlocksSpec)

/-- ITS FALSE NEIGHBOUR: 'it returns false'. Refute it at one input. -/
def inflateBlocksWrong : ChangeSpec := { name := "inflateBlocks", fn := fun _ => fun
  | [d1, d2, d3, d4] => { results := [.lit (.bool false)], args := [d1, d2, d3, d4] }
  | _ => none }
def InflateBlocksWrongFalsely : Prop := inflateBlocksRow.holds Tryd.pinned (OpenSpec.ofChange inflateBlocksWrong)

/-- 'duffellaw18.InflateBounds': WHATEVER THE INPUT: true; the input reads as it did. -/
def inflateBoundsSpec : ChangeSpec := { name := "inflateBounds", fn := fun _ => fun
  | [d1, d2] => { results := [.lit (.bool true)], args := [d1, d2] }
  | _ => none }
def inflateBoundsRow : OpenClaim := { program := "ytnebigjgnfbcjaadoor", sum := "7169e273fa3e2a4def2610f4bc109252250f407c13deb89c8ed9c4f4d0ef9868", func := "duffel/duffellaw18.InflateBounds", spec := "inflateBounds", named := ["duffel/dyn.order"], apart := false, laid := [("duffel/dyn.order", laid_duffel_dyn_order)] }
def InflateBoundsSaid : Prop := inflateBoundsRow.holds Tryd.pinned (OpenSpec.ofChange inflateBoundsSpec)

/-- ITS FALSE NEIGHBOUR: 'it returns false'. Refute it at one input. -/
def inflateBoundsWrong : ChangeSpec := { name := "inflateBounds", fn := fun _ => fun
  | [d1, d2] => { results := [.lit (.bool false)], args := [d1, d2] }
  | _ => none }
def InflateBoundsWrongFalsely : Prop := inflateBoundsRow.holds Tryd.pinned (OpenSpec.ofChange inflateBoundsWrong)

/-- 'duffellaw18.InflateFixed': WHATEVER THE INPUT: true; the input reads as it did. -/
def inflateFixedSpec : ChangeSpec := { name := "inflateFixed", fn := fun _ => fun
  | [d1, d2] => { results := [.lit (.bool true)], args := [d1, d2] }
  | _ => none }
def inflateFixedRow : OpenClaim := { program := "ytnebigjgnfbcjaadoor", sum := "7169e273fa3e2a4def2610f4bc109252250f407c13deb89c8ed9c4f4d0ef9868", func := "duffel/duffellaw18.InflateFixed", spec := "inflateFixed", named := ["duffel/dyn.order"], apart := false, laid := [("duffel/dyn.order", laid_duffel_dyn_order)] }
def InflateFixedSaid : Prop := inflateFixedRow.holds Tryd.pinned (OpenSpec.ofChange inflateFixedSpec)

/-- ITS FALSE NEIGHBOUR: 'it returns false'. Refute it at one input. -/
def inflateFixedWrong : ChangeSpec := { name := "inflateFixed", fn := fun _ => fun
  | [d1, d2] => { results := [.lit (.bool false)], args := [d1, d2] }
  | _ => none }
def InflateFixedWrongFalsely : Prop := inflateFixedRow.holds Tryd.pinned (OpenSpec.ofChange inflateFixedWrong)

/-- 'duffellaw18.InflateTells': WHATEVER THE INPUT: true; the input reads as it did. -/
def inflateTellsSpec : ChangeSpec := { name := "inflateTells", fn := fun _ => fun
  | [d1, d2] => { results := [.lit (.bool true)], args := [d1, d2] }
  | _ => none }
def inflateTellsRow : OpenClaim := { program := "ytnebigjgnfbcjaadoor", sum := "7169e273fa3e2a4def2610f4bc109252250f407c13deb89c8ed9c4f4d0ef9868", func := "duffel/duffellaw18.InflateTells", spec := "inflateTells", named := ["duffel/dyn.order"], apart := false, laid := [("duffel/dyn.order", laid_duffel_dyn_order)] }
def InflateTellsSaid : Prop := inflateTellsRow.holds Tryd.pinned (OpenSpec.ofChange inflateTellsSpec)

/-- ITS FALSE NEIGHBOUR: 'it returns false'. Refute it at one input. -/
def inflateTellsWrong : ChangeSpec := { name := "inflateTells", fn := fun _ => fun
  | [d1, d2] => { results := [.lit (.bool false)], args := [d1, d2] }
  | _ => none }
def InflateTellsWrongFalsely : Prop := inflateTellsRow.holds Tryd.pinned (OpenSpec.ofChange inflateTellsWrong)

/- THE SECOND FORM. 'bulk': how many values and letters a reading holds, each counted each time it is reached (what is shared counts as often as it is met; a slice's spare places count too). A statement '..UptoSaid' is the law's where the arguments, and the package variables that the reading takes, are together of bulk at most 1048576: NARROWER than '..Said'. Prove '..Said' where nothing that the law and all that it calls make is longer than what came in: it says more and counts as full. Else prove '..UptoSaid'. A law counts once. -/
mutual
def uptoBulk {H : Type} : DataW H → Nat
  | .lit (.string bytes) => bytes.length + 1
  | .lit _ => 1
  | .nil => 1
  | .ptr d => uptoBulk d + 1
  | .slice elems spare => uptoBulkAll elems + uptoBulkAll spare + 1
  | .agg parts => uptoBulkAll parts + 1
  | .iface _ d => uptoBulk d + 1
  | .map entries => uptoBulkEntries entries + 1
  | .held _ => 1
def uptoBulkAll {H : Type} : List (DataW H) → Nat
  | [] => 0
  | d :: r => uptoBulk d + uptoBulkAll r
def uptoBulkEntries {H : Type} : List (Lit × DataW H) → Nat
  | [] => 0
  | x :: r => uptoBulkEntry x + uptoBulkEntries r
def uptoBulkEntry {H : Type} : Lit × DataW H → Nat
  | (.string bytes, d) => bytes.length + uptoBulk d + 1
  | (_, d) => uptoBulk d + 1
 end
def uptoSmall : (H : Type) → List (DataW H) → Bool := fun _ ds => decide (uptoBulkAll ds ≤ 1048576)
def OpenSpec.upto (s : _root_.Go.ChangeSpec) : _root_.Go.OpenSpec := { _root_.Go.OpenSpec.ofChange s with cond := some uptoSmall }

/-- 'duffellaw18.InflateReads', WHERE WHAT IT READS IS OF BULK AT MOST 1048576: true; the input reads as it did. -/
def inflateReadsUptoRow : OpenClaim := { program := "ytnebigjgnfbcjaadoor", sum := "7169e273fa3e2a4def2610f4bc109252250f407c13deb89c8ed9c4f4d0ef9868", func := "duffel/duffellaw18.InflateReads", spec := "inflateReads", named := ["duffel/dyn.order"], apart := false, laid := [("duffel/dyn.order", laid_duffel_dyn_order)], narrowed := true }
def InflateReadsUptoSaid : Prop := inflateReadsUptoRow.holds Tryd.pinned (OpenSpec.upto inflateReadsSpec)

/-- 'duffellaw18.InflateBlocks', WHERE WHAT IT READS IS OF BULK AT MOST 1048576: true; the input reads as it did. -/
def inflateBlocksUptoRow : OpenClaim := { program := "ytnebigjgnfbcjaadoor", sum := "7169e273fa3e2a4def2610f4bc109252250f407c13deb89c8ed9c4f4d0ef9868", func := "duffel/duffellaw18.InflateBlocks", spec := "inflateBlocks", named := ["duffel/dyn.order"], apart := false, laid := [("duffel/dyn.order", laid_duffel_dyn_order)], narrowed := true }
def InflateBlocksUptoSaid : Prop := inflateBlocksUptoRow.holds Tryd.pinned (OpenSpec.upto inflateBlocksSpec)

/-- 'duffellaw18.InflateBounds', WHERE WHAT IT READS IS OF BULK AT MOST 1048576: true; the input reads as it did. -/
def inflateBoundsUptoRow : OpenClaim := { program := "ytnebigjgnfbcjaadoor", sum := "7169e273fa3e2a4def2610f4bc109252250f407c13deb89c8ed9c4f4d0ef9868", func := "duffel/duffellaw18.InflateBounds", spec := "inflateBounds", named := ["duffel/dyn.order"], apart := false, laid := [("duffel/dyn.order", laid_duffel_dyn_order)], narrowed := true }
def InflateBoundsUptoSaid : Prop := inflateBoundsUptoRow.holds Tryd.pinned (OpenSpec.upto inflateBoundsSpec)

/-- 'duffellaw18.InflateFixed', WHERE WHAT IT READS IS OF BULK AT MOST 1048576: true; the input reads as it did. -/
def inflateFixedUptoRow : OpenClaim := { program := "ytnebigjgnfbcjaadoor", sum := "7169e273fa3e2a4def2610f4bc109252250f407c13deb89c8ed9c4f4d0ef9868", func := "duffel/duffellaw18.InflateFixed", spec := "inflateFixed", named := ["duffel/dyn.order"], apart := false, laid := [("duffel/dyn.order", laid_duffel_dyn_order)], narrowed := true }
def InflateFixedUptoSaid : Prop := inflateFixedUptoRow.holds Tryd.pinned (OpenSpec.upto inflateFixedSpec)

/-- 'duffellaw18.InflateTells', WHERE WHAT IT READS IS OF BULK AT MOST 1048576: true; the input reads as it did. -/
def inflateTellsUptoRow : OpenClaim := { program := "ytnebigjgnfbcjaadoor", sum := "7169e273fa3e2a4def2610f4bc109252250f407c13deb89c8ed9c4f4d0ef9868", func := "duffel/duffellaw18.InflateTells", spec := "inflateTells", named := ["duffel/dyn.order"], apart := false, laid := [("duffel/dyn.order", laid_duffel_dyn_order)], narrowed := true }
def InflateTellsUptoSaid : Prop := inflateTellsUptoRow.holds Tryd.pinned (OpenSpec.upto inflateTellsSpec)

end Rows
end Go.Proofs.YtnebigjgnfbcjaaDoor
