/-
  No cell of these rows narrows 'for every input' (looked for: loops, veiled, ifaces, maps, wideKeys, modest, calm, conditions, laid).
  DERIVED. THE GIVEN ROWS OF THIS SEAT. 2 by the template 'for every input the law returns true; each argument reads behind the call as it read before'; 0 by the template 'total and deterministic' (their statements: YtpakjokbnjbkjaaTotals.lean).
  GIVEN WITH THE SEED: the statements are not yours to turn. If you find one false, say at which input.
  Laid BY PROGRAM, IN A SANDBOX (cutbox-rows.mjs): the forced cells as the released guide's own fill.sh prints them over the translation f31a345a382b65a1… (all of the seat's roots in one cut). By AI agents, Wed Nov 11 2026. No macro, syntax, notation, axiom, sorry.
-/
import Derived.Test.YtpakjokbnjbkjaaChecked
import GoSem.Claim
import GoSem.ClaimJoined
import GoSem.ClaimMapViews
import Derived.JoinedTies
import Derived.KernelRfl
namespace Go.Proofs.Ytpakjokbnjbkjaa
/- THE CELL 'sum', in the pinned program and in every row, IS THE sha256 OF THE DUMP (.gsa) THAT YtpakjokbnjbkjaaProg.lean LOADS. Nothing in Lean hashes anything: it is a label: what it is worth is what the hold of that sum in a sandbox is worth. -/
noncomputable def Try.pinned : Pinned := { name := "ytpakjokbnjbkjaa", sum := "f31a345a382b65a15152db88be72205ae51447bef72b639fd136ea93398893e1", checked := Try.checked }
namespace Rows
def none {H : Type} : Left H := { results := [], args := [] }

/-- 'duffellaw17.DynCodes': WHATEVER THE INPUT: true; the input reads as it did. -/
def dynCodesSpec : ChangeSpec := { name := "dynCodes", fn := fun _ => fun
  | [d1, d2, d3] => { results := [.lit (.bool true)], args := [d1, d2, d3] }
  | _ => none }
def dynCodesRow : OpenClaim := { program := "ytpakjokbnjbkjaa", sum := "f31a345a382b65a15152db88be72205ae51447bef72b639fd136ea93398893e1", func := "duffel/duffellaw17.DynCodes", spec := "dynCodes", apart := false }
def DynCodesSaid : Prop := dynCodesRow.holds Try.pinned (OpenSpec.ofChange dynCodesSpec)

/-- ITS FALSE NEIGHBOUR: 'it returns false'. Refute it at one input. -/
def dynCodesWrong : ChangeSpec := { name := "dynCodes", fn := fun _ => fun
  | [d1, d2, d3] => { results := [.lit (.bool false)], args := [d1, d2, d3] }
  | _ => none }
def DynCodesWrongFalsely : Prop := dynCodesRow.holds Try.pinned (OpenSpec.ofChange dynCodesWrong)

/-- 'duffellaw17.DynStand': WHATEVER THE INPUT: true; the input reads as it did. -/
def dynStandSpec : ChangeSpec := { name := "dynStand", fn := fun _ => fun
  | [d1, d2] => { results := [.lit (.bool true)], args := [d1, d2] }
  | _ => none }
def dynStandRow : OpenClaim := { program := "ytpakjokbnjbkjaa", sum := "f31a345a382b65a15152db88be72205ae51447bef72b639fd136ea93398893e1", func := "duffel/duffellaw17.DynStand", spec := "dynStand", apart := false }
def DynStandSaid : Prop := dynStandRow.holds Try.pinned (OpenSpec.ofChange dynStandSpec)

/-- ITS FALSE NEIGHBOUR: 'it returns false'. Refute it at one input. -/
def dynStandWrong : ChangeSpec := { name := "dynStand", fn := fun _ => fun
  | [d1, d2] => { results := [.lit (.bool false)], args := [d1, d2] }
  | _ => none }
def DynStandWrongFalsely : Prop := dynStandRow.holds Try.pinned (OpenSpec.ofChange dynStandWrong)

/- THE SECOND FORM. 'bulk': how many values and letters a reading holds, each counted each time it is reached (what is shared counts as often as it is met; a slice's spare places count too). A statement '..UptoSaid' is the law's where the arguments, and the package variables that the reading takes, are together of bulk at most 1048576: NARROWER than '..Said'. Prove '..Said' where nothing that the law and all that it calls make is longer than what came in: it says more and counts as full. Else prove '..UptoSaid'. A law counts once. -/
mutual
def uptoBulk {H : Type} : DataW H → Nat
  | .lit (.string bytes) => bytes.length + 1
  | .lit _ => 1
  | .nil => 1
  | .ptr d => uptoBulk d + 1
  | .slice elems spare => uptoBulkAll elems + uptoBulkAll spare + 1
  | .agg parts => uptoBulkAll parts + 1
  | .iface _ d => uptoBulk d + 1
  | .map entries => uptoBulkEntries entries + 1
  | .held _ => 1
def uptoBulkAll {H : Type} : List (DataW H) → Nat
  | [] => 0
  | d :: r => uptoBulk d + uptoBulkAll r
def uptoBulkEntries {H : Type} : List (Lit × DataW H) → Nat
  | [] => 0
  | x :: r => uptoBulkEntry x + uptoBulkEntries r
def uptoBulkEntry {H : Type} : Lit × DataW H → Nat
  | (.string bytes, d) => bytes.length + uptoBulk d + 1
  | (_, d) => uptoBulk d + 1
 end
def uptoSmall : (H : Type) → List (DataW H) → Bool := fun _ ds => decide (uptoBulkAll ds ≤ 1048576)
def OpenSpec.upto (s : _root_.Go.ChangeSpec) : _root_.Go.OpenSpec := { _root_.Go.OpenSpec.ofChange s with cond := some uptoSmall }

/-- 'duffellaw17.DynCodes', WHERE WHAT IT READS IS OF BULK AT MOST 1048576: true; the input reads as it did. -/
def dynCodesUptoRow : OpenClaim := { program := "ytpakjokbnjbkjaa", sum := "f31a345a382b65a15152db88be72205ae51447bef72b639fd136ea93398893e1", func := "duffel/duffellaw17.DynCodes", spec := "dynCodes", apart := false, narrowed := true }
def DynCodesUptoSaid : Prop := dynCodesUptoRow.holds Try.pinned (OpenSpec.upto dynCodesSpec)

/-- 'duffellaw17.DynStand', WHERE WHAT IT READS IS OF BULK AT MOST 1048576: true; the input reads as it did. -/
def dynStandUptoRow : OpenClaim := { program := "ytpakjokbnjbkjaa", sum := "f31a345a382b65a15152db88be72205ae51447bef72b639fd136ea93398893e1", func := "duffel/duffellaw17.DynStand", spec := "dynStand", apart := false, narrowed := true }
def DynStandUptoSaid : Prop := dynStandUptoRow.holds Try.pinned (OpenSpec.upto dynStandSpec)

end Rows
end Go.Proofs.Ytpakjokbnjbkjaa
