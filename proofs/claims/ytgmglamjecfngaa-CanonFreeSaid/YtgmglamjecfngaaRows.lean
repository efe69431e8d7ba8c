/-
  No cell of these rows narrows 'for every input' (looked for: loops, veiled, ifaces, maps, wideKeys, modest, calm, conditions, laid).
  DERIVED. THE GIVEN ROWS OF THIS SEAT. 8 by the template 'for every input the law returns true; each argument reads behind the call as it read before'; 0 by the template 'total and deterministic' (their statements: YtgmglamjecfngaaTotals.lean).
  GIVEN WITH THE SEED: the statements are not yours to turn. If you find one false, say at which input.
  Laid BY PROGRAM, IN A SANDBOX (cutbox-rows.mjs): the forced cells as the released guide's own fill.sh prints them over the translation 14fc4ac3509407b8… (all of the seat's roots in one cut). By AI agents, Wed Nov 11 2026. No macro, syntax, notation, axiom, sorry.
-/
import Derived.Test.YtgmglamjecfngaaChecked
import GoSem.Claim
import GoSem.ClaimJoined
import GoSem.ClaimMapViews
import Derived.JoinedTies
import Derived.KernelRfl
namespace Go.Proofs.Ytgmglamjecfngaa
/- THE CELL 'sum', in the pinned program and in every row, IS THE sha256 OF THE DUMP (.gsa) THAT YtgmglamjecfngaaProg.lean LOADS. Nothing in Lean hashes anything: it is a label: what it is worth is what the hold of that sum in a sandbox is worth. -/
noncomputable def Try.pinned : Pinned := { name := "ytgmglamjecfngaa", sum := "14fc4ac3509407b8690a5fda087ad23017fe20bac38d9b37ddce3a830f807f75", checked := Try.checked }
namespace Rows
def none {H : Type} : Left H := { results := [], args := [] }

/-- 'duffellaw04.CanonFree': WHATEVER THE INPUT: true; the input reads as it did. -/
def canonFreeSpec : ChangeSpec := { name := "canonFree", fn := fun _ => fun
  | [d] => { results := [.lit (.bool true)], args := [d] }
  | _ => none }
def canonFreeRow : OpenClaim := { program := "ytgmglamjecfngaa", sum := "14fc4ac3509407b8690a5fda087ad23017fe20bac38d9b37ddce3a830f807f75", func := "duffel/duffellaw04.CanonFree", spec := "canonFree", apart := false }
def CanonFreeSaid : Prop := canonFreeRow.holds Try.pinned (OpenSpec.ofChange canonFreeSpec)

/-- ITS FALSE NEIGHBOUR: 'it returns false'. Refute it at one input. -/
def canonFreeWrong : ChangeSpec := { name := "canonFree", fn := fun _ => fun
  | [d] => { results := [.lit (.bool false)], args := [d] }
  | _ => none }
def CanonFreeWrongFalsely : Prop := canonFreeRow.holds Try.pinned (OpenSpec.ofChange canonFreeWrong)

/-- 'duffellaw08.TokenSizes': WHATEVER THE INPUT: true; the input reads as it did. -/
def tokenSizesSpec : ChangeSpec := { name := "tokenSizes", fn := fun _ => fun
  | [d1, d2, d3] => { results := [.lit (.bool true)], args := [d1, d2, d3] }
  | _ => none }
def tokenSizesRow : OpenClaim := { program := "ytgmglamjecfngaa", sum := "14fc4ac3509407b8690a5fda087ad23017fe20bac38d9b37ddce3a830f807f75", func := "duffel/duffellaw08.TokenSizes", spec := "tokenSizes", apart := false }
def TokenSizesSaid : Prop := tokenSizesRow.holds Try.pinned (OpenSpec.ofChange tokenSizesSpec)

/-- ITS FALSE NEIGHBOUR: 'it returns false'. Refute it at one input. -/
def tokenSizesWrong : ChangeSpec := { name := "tokenSizes", fn := fun _ => fun
  | [d1, d2, d3] => { results := [.lit (.bool false)], args := [d1, d2, d3] }
  | _ => none }
def TokenSizesWrongFalsely : Prop := tokenSizesRow.holds Try.pinned (OpenSpec.ofChange tokenSizesWrong)

/-- 'duffellaw08.TokenRuns': WHATEVER THE INPUT: true; the input reads as it did. -/
def tokenRunsSpec : ChangeSpec := { name := "tokenRuns", fn := fun _ => fun
  | [d] => { results := [.lit (.bool true)], args := [d] }
  | _ => none }
def tokenRunsRow : OpenClaim := { program := "ytgmglamjecfngaa", sum := "14fc4ac3509407b8690a5fda087ad23017fe20bac38d9b37ddce3a830f807f75", func := "duffel/duffellaw08.TokenRuns", spec := "tokenRuns", apart := false }
def TokenRunsSaid : Prop := tokenRunsRow.holds Try.pinned (OpenSpec.ofChange tokenRunsSpec)

/-- ITS FALSE NEIGHBOUR: 'it returns false'. Refute it at one input. -/
def tokenRunsWrong : ChangeSpec := { name := "tokenRuns", fn := fun _ => fun
  | [d] => { results := [.lit (.bool false)], args := [d] }
  | _ => none }
def TokenRunsWrongFalsely : Prop := tokenRunsRow.holds Try.pinned (OpenSpec.ofChange tokenRunsWrong)

/-- 'duffellaw04.CanonWords': WHATEVER THE INPUT: true; the input reads as it did. -/
def canonWordsSpec : ChangeSpec := { name := "canonWords", fn := fun _ => fun
  | [d] => { results := [.lit (.bool true)], args := [d] }
  | _ => none }
def canonWordsRow : OpenClaim := { program := "ytgmglamjecfngaa", sum := "14fc4ac3509407b8690a5fda087ad23017fe20bac38d9b37ddce3a830f807f75", func := "duffel/duffellaw04.CanonWords", spec := "canonWords", apart := false }
def CanonWordsSaid : Prop := canonWordsRow.holds Try.pinned (OpenSpec.ofChange canonWordsSpec)

/-- ITS FALSE NEIGHBOUR: 'it returns false'. Refute it at one input. -/
def canonWordsWrong : ChangeSpec := { name := "canonWords", fn := fun _ => fun
  | [d] => { results := [.lit (.bool false)], args := [d] }
  | _ => none }
def CanonWordsWrongFalsely : Prop := canonWordsRow.holds Try.pinned (OpenSpec.ofChange canonWordsWrong)

/-- 'duffellaw04.CanonReads': WHATEVER THE INPUT: true; the input reads as it did. -/
def canonReadsSpec : ChangeSpec := { name := "canonReads", fn := fun _ => fun
  | [d1, d2, d3] => { results := [.lit (.bool true)], args := [d1, d2, d3] }
  | _ => none }
def canonReadsRow : OpenClaim := { program := "ytgmglamjecfngaa", sum := "14fc4ac3509407b8690a5fda087ad23017fe20bac38d9b37ddce3a830f807f75", func := "duffel/duffellaw04.CanonReads", spec := "canonReads", apart := false }
def CanonReadsSaid : Prop := canonReadsRow.holds Try.pinned (OpenSpec.ofChange canonReadsSpec)

/-- ITS FALSE NEIGHBOUR: 'it returns false'. Refute it at one input. -/
def canonReadsWrong : ChangeSpec := { name := "canonReads", fn := fun _ => fun
  | [d1, d2, d3] => { results := [.lit (.bool false)], args := [d1, d2, d3] }
  | _ => none }
def CanonReadsWrongFalsely : Prop := canonReadsRow.holds Try.pinned (OpenSpec.ofChange canonReadsWrong)

/-- 'duffellaw04.CanonNobody': WHATEVER THE INPUT: true; the input reads as it did. -/
def canonNobodySpec : ChangeSpec := { name := "canonNobody", fn := fun _ => fun
  | [d] => { results := [.lit (.bool true)], args := [d] }
  | _ => none }
def canonNobodyRow : OpenClaim := { program := "ytgmglamjecfngaa", sum := "14fc4ac3509407b8690a5fda087ad23017fe20bac38d9b37ddce3a830f807f75", func := "duffel/duffellaw04.CanonNobody", spec := "canonNobody", apart := false }
def CanonNobodySaid : Prop := canonNobodyRow.holds Try.pinned (OpenSpec.ofChange canonNobodySpec)

/-- ITS FALSE NEIGHBOUR: 'it returns false'. Refute it at one input. -/
def canonNobodyWrong : ChangeSpec := { name := "canonNobody", fn := fun _ => fun
  | [d] => { results := [.lit (.bool false)], args := [d] }
  | _ => none }
def CanonNobodyWrongFalsely : Prop := canonNobodyRow.holds Try.pinned (OpenSpec.ofChange canonNobodyWrong)

/-- 'duffellaw04.CanonFull': WHATEVER THE INPUT: true; the input reads as it did. -/
def canonFullSpec : ChangeSpec := { name := "canonFull", fn := fun _ => fun
  | [d1, d2] => { results := [.lit (.bool true)], args := [d1, d2] }
  | _ => none }
def canonFullRow : OpenClaim := { program := "ytgmglamjecfngaa", sum := "14fc4ac3509407b8690a5fda087ad23017fe20bac38d9b37ddce3a830f807f75", func := "duffel/duffellaw04.CanonFull", spec := "canonFull", apart := false }
def CanonFullSaid : Prop := canonFullRow.holds Try.pinned (OpenSpec.ofChange canonFullSpec)

/-- ITS FALSE NEIGHBOUR: 'it returns false'. Refute it at one input. -/
def canonFullWrong : ChangeSpec := { name := "canonFull", fn := fun _ => fun
  | [d1, d2] => { results := [.lit (.bool false)], args := [d1, d2] }
  | _ => none }
def CanonFullWrongFalsely : Prop := canonFullRow.holds Try.pinned (OpenSpec.ofChange canonFullWrong)

/-- 'duffellaw04.CanonBack': WHATEVER THE INPUT: true; the input reads as it did. -/
def canonBackSpec : ChangeSpec := { name := "canonBack", fn := fun _ => fun
  | [d1, d2] => { results := [.lit (.bool true)], args := [d1, d2] }
  | _ => none }
def canonBackRow : OpenClaim := { program := "ytgmglamjecfngaa", sum := "14fc4ac3509407b8690a5fda087ad23017fe20bac38d9b37ddce3a830f807f75", func := "duffel/duffellaw04.CanonBack", spec := "canonBack", apart := false }
def CanonBackSaid : Prop := canonBackRow.holds Try.pinned (OpenSpec.ofChange canonBackSpec)

/-- ITS FALSE NEIGHBOUR: 'it returns false'. Refute it at one input. -/
def canonBackWrong : ChangeSpec := { name := "canonBack", fn := fun _ => fun
  | [d1, d2] => { results := [.lit (.bool false)], args := [d1, d2] }
  | _ => none }
def CanonBackWrongFalsely : Prop := canonBackRow.holds Try.pinned (OpenSpec.ofChange canonBackWrong)

/- THE SECOND FORM. 'bulk': how many values and letters a reading holds, each counted each time it is reached (what is shared counts as often as it is met; a slice's spare places count too). A statement '..UptoSaid' is the law's where the arguments, and the package variables that the reading takes, are together of bulk at most 1048576: NARROWER than '..Said'. Prove '..Said' where nothing that the law and all that it calls make is longer than what came in: it says more and counts as full. Else prove '..UptoSaid'. A law counts once. -/
mutual
def uptoBulk {H : Type} : DataW H → Nat
  | .lit (.string bytes) => bytes.length + 1
  | .lit _ => 1
  | .nil => 1
  | .ptr d => uptoBulk d + 1
  | .slice elems spare => uptoBulkAll elems + uptoBulkAll spare + 1
  | .agg parts => uptoBulkAll parts + 1
  | .iface _ d => uptoBulk d + 1
  | .map entries => uptoBulkEntries entries + 1
  | .held _ => 1
def uptoBulkAll {H : Type} : List (DataW H) → Nat
  | [] => 0
  | d :: r => uptoBulk d + uptoBulkAll r
def uptoBulkEntries {H : Type} : List (Lit × DataW H) → Nat
  | [] => 0
  | x :: r => uptoBulkEntry x + uptoBulkEntries r
def uptoBulkEntry {H : Type} : Lit × DataW H → Nat
  | (.string bytes, d) => bytes.length + uptoBulk d + 1
  | (_, d) => uptoBulk d + 1
 end
def uptoSmall : (H : Type) → List (DataW H) → Bool := fun _ ds => decide (uptoBulkAll ds ≤ 1048576)
def OpenSpec.upto (s : _root_.Go.ChangeSpec) : _root_.Go.OpenSpec := { _root_.Go.OpenSpec.ofChange s with cond := some uptoSmall }

/-- 'duffellaw04.CanonFree', WHERE WHAT IT READS IS OF BULK AT MOST 1048576: true; the input reads as it did. -/
def canonFreeUptoRow : OpenClaim := { program := "ytgmglamjecfngaa", sum := "14fc4ac3509407b8690a5fda087ad23017fe20bac38d9b37ddce3a830f807f75", func := "duffel/duffellaw04.CanonFree", spec := "canonFree", apart := false, narrowed := true }
def CanonFreeUptoSaid : Prop := canonFreeUptoRow.holds Try.pinned (OpenSpec.upto canonFreeSpec)

/-- 'duffellaw08.TokenSizes', WHERE WHAT IT READS IS OF BULK AT MOST 1048576: true; the input reads as it did. -/
def tokenSizesUptoRow : OpenClaim := { program := "ytgmglamjecfngaa", sum := "14fc4ac3509407b8690a5fda087ad23017fe20bac38d9b37ddce3a830f807f75", func := "duffel/duffellaw08.TokenSizes", spec := "tokenSizes", apart := false, narrowed := true }
def TokenSizesUptoSaid : Prop := tokenSizesUptoRow.holds Try.pinned (OpenSpec.upto tokenSizesSpec)

/-- 'duffellaw08.TokenRuns', WHERE WHAT IT READS IS OF BULK AT MOST 1048576: true; the input reads as it did. -/
def tokenRunsUptoRow : OpenClaim := { program := "ytgmglamjecfngaa", sum := "14fc4ac3509407b8690a5fda087ad23017fe20bac38d9b37ddce3a830f807f75", func := "duffel/duffellaw08.TokenRuns", spec := "tokenRuns", apart := false, narrowed := true }
def TokenRunsUptoSaid : Prop := tokenRunsUptoRow.holds Try.pinned (OpenSpec.upto tokenRunsSpec)

/-- 'duffellaw04.CanonWords', WHERE WHAT IT READS IS OF BULK AT MOST 1048576: true; the input reads as it did. -/
def canonWordsUptoRow : OpenClaim := { program := "ytgmglamjecfngaa", sum := "14fc4ac3509407b8690a5fda087ad23017fe20bac38d9b37ddce3a830f807f75", func := "duffel/duffellaw04.CanonWords", spec := "canonWords", apart := false, narrowed := true }
def CanonWordsUptoSaid : Prop := canonWordsUptoRow.holds Try.pinned (OpenSpec.upto canonWordsSpec)

/-- 'duffellaw04.CanonReads', WHERE WHAT IT READS IS OF BULK AT MOST 1048576: true; the input reads as it did. -/
def canonReadsUptoRow : OpenClaim := { program := "ytgmglamjecfngaa", sum := "14fc4ac3509407b8690a5fda087ad23017fe20bac38d9b37ddce3a830f807f75", func := "duffel/duffellaw04.CanonReads", spec := "canonReads", apart := false, narrowed := true }
def CanonReadsUptoSaid : Prop := canonReadsUptoRow.holds Try.pinned (OpenSpec.upto canonReadsSpec)

/-- 'duffellaw04.CanonNobody', WHERE WHAT IT READS IS OF BULK AT MOST 1048576: true; the input reads as it did. -/
def canonNobodyUptoRow : OpenClaim := { program := "ytgmglamjecfngaa", sum := "14fc4ac3509407b8690a5fda087ad23017fe20bac38d9b37ddce3a830f807f75", func := "duffel/duffellaw04.CanonNobody", spec := "canonNobody", apart := false, narrowed := true }
def CanonNobodyUptoSaid : Prop := canonNobodyUptoRow.holds Try.pinned (OpenSpec.upto canonNobodySpec)

/-- 'duffellaw04.CanonFull', WHERE WHAT IT READS IS OF BULK AT MOST 1048576: true; the input reads as it did. -/
def canonFullUptoRow : OpenClaim := { program := "ytgmglamjecfngaa", sum := "14fc4ac3509407b8690a5fda087ad23017fe20bac38d9b37ddce3a830f807f75", func := "duffel/duffellaw04.CanonFull", spec := "canonFull", apart := false, narrowed := true }
def CanonFullUptoSaid : Prop := canonFullUptoRow.holds Try.pinned (OpenSpec.upto canonFullSpec)

/-- 'duffellaw04.CanonBack', WHERE WHAT IT READS IS OF BULK AT MOST 1048576: true; the input reads as it did. -/
def canonBackUptoRow : OpenClaim := { program := "ytgmglamjecfngaa", sum := "14fc4ac3509407b8690a5fda087ad23017fe20bac38d9b37ddce3a830f807f75", func := "duffel/duffellaw04.CanonBack", spec := "canonBack", apart := false, narrowed := true }
def CanonBackUptoSaid : Prop := canonBackUptoRow.holds Try.pinned (OpenSpec.upto canonBackSpec)

end Rows
end Go.Proofs.Ytgmglamjecfngaa
