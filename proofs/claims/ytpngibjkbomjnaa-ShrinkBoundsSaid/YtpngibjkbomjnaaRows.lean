/-
  No cell of these rows narrows 'for every input' (looked for: loops, veiled, ifaces, maps, wideKeys, modest, calm, conditions, laid).
  DERIVED. THE GIVEN ROWS OF THIS SEAT. 5 by the template 'for every input the law returns true; each argument reads behind the call as it read before'; 0 by the template 'total and deterministic' (their statements: YtpngibjkbomjnaaTotals.lean).
  GIVEN WITH THE SEED: the statements are not yours to turn. If you find one false, say at which input.
  Laid BY PROGRAM, IN A SANDBOX (cutbox-rows.mjs): the forced cells as the released guide's own fill.sh prints them over the translation 703e5c4fb157ceae… (all of the seat's roots in one cut). By AI agents, Wed Nov 11 2026. No macro, syntax, notation, axiom, sorry.
-/
import Derived.Test.YtpngibjkbomjnaaChecked
import GoSem.Claim
import GoSem.ClaimJoined
import GoSem.ClaimMapViews
import Derived.JoinedTies
import Derived.KernelRfl
namespace Go.Proofs.Ytpngibjkbomjnaa
/- THE CELL 'sum', in the pinned program and in every row, IS THE sha256 OF THE DUMP (.gsa) THAT YtpngibjkbomjnaaProg.lean LOADS. Nothing in Lean hashes anything: it is a label: what it is worth is what the hold of that sum in a sandbox is worth. -/
noncomputable def Try.pinned : Pinned := { name := "ytpngibjkbomjnaa", sum := "703e5c4fb157ceae336d5336420b35d2196c7db4be629221017288e15c438859", checked := Try.checked }
namespace Rows
def none {H : Type} : Left H := { results := [], args := [] }

/-- 'duffellaw11.ShrinkReads': WHATEVER THE INPUT: true; the input reads as it did. -/
def shrinkReadsSpec : ChangeSpec := { name := "shrinkReads", fn := fun _ => fun
  | [d1, d2] => { results := [.lit (.bool true)], args := [d1, d2] }
  | _ => none }
def shrinkReadsRow : OpenClaim := { program := "ytpngibjkbomjnaa", sum := "703e5c4fb157ceae336d5336420b35d2196c7db4be629221017288e15c438859", func := "duffel/duffellaw11.ShrinkReads", spec := "shrinkReads", plainKeys := false, apart := false }
def ShrinkReadsSaid : Prop := shrinkReadsRow.holds Try.pinned (OpenSpec.ofChange shrinkReadsSpec)

/-- ITS FALSE NEIGHBOUR: 'it returns false'. Refute it at one input. -/
def shrinkReadsWrong : ChangeSpec := { name := "shrinkReads", fn := fun _ => fun
  | [d1, d2] => { results := [.lit (.bool false)], args := [d1, d2] }
  | _ => none }
def ShrinkReadsWrongFalsely : Prop := shrinkReadsRow.holds Try.pinned (OpenSpec.ofChange shrinkReadsWrong)

/-- 'duffellaw11.ShrinkCodes': WHATEVER THE INPUT: true; the input reads as it did. -/
def shrinkCodesSpec : ChangeSpec := { name := "shrinkCodes", fn := fun _ => fun
  | [d1, d2, d3] => { results := [.lit (.bool true)], args := [d1, d2, d3] }
  | _ => none }
def shrinkCodesRow : OpenClaim := { program := "ytpngibjkbomjnaa", sum := "703e5c4fb157ceae336d5336420b35d2196c7db4be629221017288e15c438859", func := "duffel/duffellaw11.ShrinkCodes", spec := "shrinkCodes", plainKeys := false, apart := false }
def ShrinkCodesSaid : Prop := shrinkCodesRow.holds Try.pinned (OpenSpec.ofChange shrinkCodesSpec)

/-- ITS FALSE NEIGHBOUR: 'it returns false'. Refute it at one input. -/
def shrinkCodesWrong : ChangeSpec := { name := "shrinkCodes", fn := fun _ => fun
  | [d1, d2, d3] => { results := [.lit (.bool false)], args := [d1, d2, d3] }
  | _ => none }
def ShrinkCodesWrongFalsely : Prop := shrinkCodesRow.holds Try.pinned (OpenSpec.ofChange shrinkCodesWrong)

/-- 'duffellaw11.ShrinkBounds': WHATEVER THE INPUT: true; the input reads as it did. -/
def shrinkBoundsSpec : ChangeSpec := { name := "shrinkBounds", fn := fun _ => fun
  | [d1, d2, d3] => { results := [.lit (.bool true)], args := [d1, d2, d3] }
  | _ => none }
def shrinkBoundsRow : OpenClaim := { program := "ytpngibjkbomjnaa", sum := "703e5c4fb157ceae336d5336420b35d2196c7db4be629221017288e15c438859", func := "duffel/duffellaw11.ShrinkBounds", spec := "shrinkBounds", plainKeys := false, apart := false }
def ShrinkBoundsSaid : Prop := shrinkBoundsRow.holds Try.pinned (OpenSpec.ofChange shrinkBoundsSpec)

/-- ITS FALSE NEIGHBOUR: 'it returns false'. Refute it at one input. -/
def shrinkBoundsWrong : ChangeSpec := { name := "shrinkBounds", fn := fun _ => fun
  | [d1, d2, d3] => { results := [.lit (.bool false)], args := [d1, d2, d3] }
  | _ => none }
def ShrinkBoundsWrongFalsely : Prop := shrinkBoundsRow.holds Try.pinned (OpenSpec.ofChange shrinkBoundsWrong)

/-- 'duffellaw11.ShrinkBack': WHATEVER THE INPUT: true; the input reads as it did. -/
def shrinkBackSpec : ChangeSpec := { name := "shrinkBack", fn := fun _ => fun
  | [d] => { results := [.lit (.bool true)], args := [d] }
  | _ => none }
def shrinkBackRow : OpenClaim := { program := "ytpngibjkbomjnaa", sum := "703e5c4fb157ceae336d5336420b35d2196c7db4be629221017288e15c438859", func := "duffel/duffellaw11.ShrinkBack", spec := "shrinkBack", plainKeys := false, apart := false }
def ShrinkBackSaid : Prop := shrinkBackRow.holds Try.pinned (OpenSpec.ofChange shrinkBackSpec)

/-- ITS FALSE NEIGHBOUR: 'it returns false'. Refute it at one input. -/
def shrinkBackWrong : ChangeSpec := { name := "shrinkBack", fn := fun _ => fun
  | [d] => { results := [.lit (.bool false)], args := [d] }
  | _ => none }
def ShrinkBackWrongFalsely : Prop := shrinkBackRow.holds Try.pinned (OpenSpec.ofChange shrinkBackWrong)

/-- 'duffellaw11.ShrinkLong': WHATEVER THE INPUT: true; the input reads as it did. -/
def shrinkLongSpec : ChangeSpec := { name := "shrinkLong", fn := fun _ => fun
  | [d1, d2, d3] => { results := [.lit (.bool true)], args := [d1, d2, d3] }
  | _ => none }
def shrinkLongRow : OpenClaim := { program := "ytpngibjkbomjnaa", sum := "703e5c4fb157ceae336d5336420b35d2196c7db4be629221017288e15c438859", func := "duffel/duffellaw11.ShrinkLong", spec := "shrinkLong", plainKeys := false, apart := false }
def ShrinkLongSaid : Prop := shrinkLongRow.holds Try.pinned (OpenSpec.ofChange shrinkLongSpec)

/-- ITS FALSE NEIGHBOUR: 'it returns false'. Refute it at one input. -/
def shrinkLongWrong : ChangeSpec := { name := "shrinkLong", fn := fun _ => fun
  | [d1, d2, d3] => { results := [.lit (.bool false)], args := [d1, d2, d3] }
  | _ => none }
def ShrinkLongWrongFalsely : Prop := shrinkLongRow.holds Try.pinned (OpenSpec.ofChange shrinkLongWrong)

/- THE SECOND FORM. 'bulk': how many values and letters a reading holds, each counted each time it is reached (what is shared counts as often as it is met; a slice's spare places count too). A statement '..UptoSaid' is the law's where the arguments, and the package variables that the reading takes, are together of bulk at most 1048576: NARROWER than '..Said'. Prove '..Said' where nothing that the law and all that it calls make is longer than what came in: it says more and counts as full. Else prove '..UptoSaid'. A law counts once. -/
mutual
def uptoBulk {H : Type} : DataW H → Nat
  | .lit (.string bytes) => bytes.length + 1
  | .lit _ => 1
  | .nil => 1
  | .ptr d => uptoBulk d + 1
  | .slice elems spare => uptoBulkAll elems + uptoBulkAll spare + 1
  | .agg parts => uptoBulkAll parts + 1
  | .iface _ d => uptoBulk d + 1
  | .map entries => uptoBulkEntries entries + 1
  | .held _ => 1
def uptoBulkAll {H : Type} : List (DataW H) → Nat
  | [] => 0
  | d :: r => uptoBulk d + uptoBulkAll r
def uptoBulkEntries {H : Type} : List (Lit × DataW H) → Nat
  | [] => 0
  | x :: r => uptoBulkEntry x + uptoBulkEntries r
def uptoBulkEntry {H : Type} : Lit × DataW H → Nat
  | (.string bytes, d) => bytes.length + uptoBulk d + 1
  | (_, d) => uptoBulk d + 1
 end
def uptoSmall : (H : Type) → List (DataW H) → Bool := fun _ ds => decide (uptoBulkAll ds ≤ 1048576)
def OpenSpec.upto (s : _root_.Go.ChangeSpec) : _root_.Go.OpenSpec := { _root_.Go.OpenSpec.ofChange s with cond := some uptoSmall }

/-- 'duffellaw11.ShrinkReads', WHERE WHAT IT READS IS OF BULK AT MOST 1048576: true; the input reads as it did. -/
def shrinkReadsUptoRow : OpenClaim := { program := "ytpngibjkbomjnaa", sum := "703e5c4fb157ceae336d5336420b35d2196c7db4be629221017288e15c438859", func := "duffel/duffellaw11.ShrinkReads", spec := "shrinkReads", plainKeys := false, apart := false, narrowed := true }
def ShrinkReadsUptoSaid : Prop := shrinkReadsUptoRow.holds Try.pinned (OpenSpec.upto shrinkReadsSpec)

/-- 'duffellaw11.ShrinkCodes', WHERE WHAT IT READS IS OF BULK AT MOST 1048576: true; the input reads as it did. -/
def shrinkCodesUptoRow : OpenClaim := { program := "ytpngibjkbomjnaa", sum := "703e5c4fb157ceae336d5336420b35d2196c7db4be629221017288e15c438859", func := "duffel/duffellaw11.ShrinkCodes", spec := "shrinkCodes", plainKeys := false, apart := false, narrowed := true }
def ShrinkCodesUptoSaid : Prop := shrinkCodesUptoRow.holds Try.pinned (OpenSpec.upto shrinkCodesSpec)

/-- 'duffellaw11.ShrinkBounds', WHERE WHAT IT READS IS OF BULK AT MOST 1048576: true; the input reads as it did. -/
def shrinkBoundsUptoRow : OpenClaim := { program := "ytpngibjkbomjnaa", sum := "703e5c4fb157ceae336d5336420b35d2196c7db4be629221017288e15c438859", func := "duffel/duffellaw11.ShrinkBounds", spec := "shrinkBounds", plainKeys := false, apart := false, narrowed := true }
def ShrinkBoundsUptoSaid : Prop := shrinkBoundsUptoRow.holds Try.pinned (OpenSpec.upto shrinkBoundsSpec)

/-- 'duffellaw11.ShrinkBack', WHERE WHAT IT READS IS OF BULK AT MOST 1048576: true; the input reads as it did. -/
def shrinkBackUptoRow : OpenClaim := { program := "ytpngibjkbomjnaa", sum := "703e5c4fb157ceae336d5336420b35d2196c7db4be629221017288e15c438859", func := "duffel/duffellaw11.ShrinkBack", spec := "shrinkBack", plainKeys := false, apart := false, narrowed := true }
def ShrinkBackUptoSaid : Prop := shrinkBackUptoRow.holds Try.pinned (OpenSpec.upto shrinkBackSpec)

/-- 'duffellaw11.ShrinkLong', WHERE WHAT IT READS IS OF BULK AT MOST 1048576: true; the input reads as it did. -/
def shrinkLongUptoRow : OpenClaim := { program := "ytpngibjkbomjnaa", sum := "703e5c4fb157ceae336d5336420b35d2196c7db4be629221017288e15c438859", func := "duffel/duffellaw11.ShrinkLong", spec := "shrinkLong", plainKeys := false, apart := false, narrowed := true }
def ShrinkLongUptoSaid : Prop := shrinkLongUptoRow.holds Try.pinned (OpenSpec.upto shrinkLongSpec)

end Rows
end Go.Proofs.Ytpngibjkbomjnaa
