/-
  No cell of these rows narrows 'for every input' (looked for: loops, veiled, ifaces, maps, wideKeys, modest, calm, conditions, laid).
  DERIVED. THE GIVEN ROWS OF THIS SEAT. 5 by the template 'for every input the law returns true; each argument reads behind the call as it read before'; 0 by the template 'total and deterministic' (their statements: YthgcfkmnolokpaaTotals.lean).
  GIVEN WITH THE SEED: the statements are not yours to turn. If you find one false, say at which input.
  Laid BY PROGRAM, IN A SANDBOX (cutbox-rows.mjs): the forced cells as the released guide's own fill.sh prints them over the translation 91f7df859e1ebc90… (all of the seat's roots in one cut). By AI agents, Wed Nov 11 2026. No macro, syntax, notation, axiom, sorry.
-/
import Derived.Test.YthgcfkmnolokpaaChecked
import GoSem.Claim
import GoSem.ClaimJoined
import GoSem.ClaimMapViews
import Derived.JoinedTies
import Derived.KernelRfl
namespace Go.Proofs.Ythgcfkmnolokpaa
/- THE CELL 'sum', in the pinned program and in every row, IS THE sha256 OF THE DUMP (.gsa) THAT YthgcfkmnolokpaaProg.lean LOADS. Nothing in Lean hashes anything: it is a label: what it is worth is what the hold of that sum in a sandbox is worth. -/
noncomputable def Try.pinned : Pinned := { name := "ythgcfkmnolokpaa", sum := "91f7df859e1ebc90cb1a18d2c804c1b2df21179a6ec7bc416a7f33f46535255a", checked := Try.checked }
namespace Rows
def none {H : Type} : Left H := { results := [], args := [] }

/-- 'duffellaw05.LimitLengths': WHATEVER THE INPUT: true; the input reads as it did. -/
def limitLengthsSpec : ChangeSpec := { name := "limitLengths", fn := fun _ => fun
  | [d1, d2] => { results := [.lit (.bool true)], args := [d1, d2] }
  | _ => none }
def limitLengthsRow : OpenClaim := { program := "ythgcfkmnolokpaa", sum := "91f7df859e1ebc90cb1a18d2c804c1b2df21179a6ec7bc416a7f33f46535255a", func := "duffel/duffellaw05.LimitLengths", spec := "limitLengths", unfollowed := true, recurses := true, apart := false }
def LimitLengthsSaid : Prop := limitLengthsRow.holds Try.pinned (OpenSpec.ofChange limitLengthsSpec)

/-- ITS FALSE NEIGHBOUR: 'it returns false'. Refute it at one input. -/
def limitLengthsWrong : ChangeSpec := { name := "limitLengths", fn := fun _ => fun
  | [d1, d2] => { results := [.lit (.bool false)], args := [d1, d2] }
  | _ => none }
def LimitLengthsWrongFalsely : Prop := limitLengthsRow.holds Try.pinned (OpenSpec.ofChange limitLengthsWrong)

/-- 'duffellaw05.LimitFlat': WHATEVER THE INPUT: true; the input reads as it did. -/
def limitFlatSpec : ChangeSpec := { name := "limitFlat", fn := fun _ => fun
  | [d1, d2, d3] => { results := [.lit (.bool true)], args := [d1, d2, d3] }
  | _ => none }
def limitFlatRow : OpenClaim := { program := "ythgcfkmnolokpaa", sum := "91f7df859e1ebc90cb1a18d2c804c1b2df21179a6ec7bc416a7f33f46535255a", func := "duffel/duffellaw05.LimitFlat", spec := "limitFlat", unfollowed := true, recurses := true, apart := false }
def LimitFlatSaid : Prop := limitFlatRow.holds Try.pinned (OpenSpec.ofChange limitFlatSpec)

/-- ITS FALSE NEIGHBOUR: 'it returns false'. Refute it at one input. -/
def limitFlatWrong : ChangeSpec := { name := "limitFlat", fn := fun _ => fun
  | [d1, d2, d3] => { results := [.lit (.bool false)], args := [d1, d2, d3] }
  | _ => none }
def LimitFlatWrongFalsely : Prop := limitFlatRow.holds Try.pinned (OpenSpec.ofChange limitFlatWrong)

/-- 'duffellaw05.LimitBest': WHATEVER THE INPUT: true; the input reads as it did. -/
def limitBestSpec : ChangeSpec := { name := "limitBest", fn := fun _ => fun
  | [d1, d2, d3] => { results := [.lit (.bool true)], args := [d1, d2, d3] }
  | _ => none }
def limitBestRow : OpenClaim := { program := "ythgcfkmnolokpaa", sum := "91f7df859e1ebc90cb1a18d2c804c1b2df21179a6ec7bc416a7f33f46535255a", func := "duffel/duffellaw05.LimitBest", spec := "limitBest", unfollowed := true, recurses := true, apart := false }
def LimitBestSaid : Prop := limitBestRow.holds Try.pinned (OpenSpec.ofChange limitBestSpec)

/-- ITS FALSE NEIGHBOUR: 'it returns false'. Refute it at one input. -/
def limitBestWrong : ChangeSpec := { name := "limitBest", fn := fun _ => fun
  | [d1, d2, d3] => { results := [.lit (.bool false)], args := [d1, d2, d3] }
  | _ => none }
def LimitBestWrongFalsely : Prop := limitBestRow.holds Try.pinned (OpenSpec.ofChange limitBestWrong)

/-- 'duffellaw05.LimitLeast': WHATEVER THE INPUT: true; the input reads as it did. -/
def limitLeastSpec : ChangeSpec := { name := "limitLeast", fn := fun _ => fun
  | [d1, d2] => { results := [.lit (.bool true)], args := [d1, d2] }
  | _ => none }
def limitLeastRow : OpenClaim := { program := "ythgcfkmnolokpaa", sum := "91f7df859e1ebc90cb1a18d2c804c1b2df21179a6ec7bc416a7f33f46535255a", func := "duffel/duffellaw05.LimitLeast", spec := "limitLeast", unfollowed := true, recurses := true, apart := false }
def LimitLeastSaid : Prop := limitLeastRow.holds Try.pinned (OpenSpec.ofChange limitLeastSpec)

/-- ITS FALSE NEIGHBOUR: 'it returns false'. Refute it at one input. -/
def limitLeastWrong : ChangeSpec := { name := "limitLeast", fn := fun _ => fun
  | [d1, d2] => { results := [.lit (.bool false)], args := [d1, d2] }
  | _ => none }
def LimitLeastWrongFalsely : Prop := limitLeastRow.holds Try.pinned (OpenSpec.ofChange limitLeastWrong)

/-- 'duffellaw05.LimitCosts': WHATEVER THE INPUT: true; the input reads as it did. -/
def limitCostsSpec : ChangeSpec := { name := "limitCosts", fn := fun _ => fun
  | [d1, d2] => { results := [.lit (.bool true)], args := [d1, d2] }
  | _ => none }
def limitCostsRow : OpenClaim := { program := "ythgcfkmnolokpaa", sum := "91f7df859e1ebc90cb1a18d2c804c1b2df21179a6ec7bc416a7f33f46535255a", func := "duffel/duffellaw05.LimitCosts", spec := "limitCosts", unfollowed := true, recurses := true, apart := false }
def LimitCostsSaid : Prop := limitCostsRow.holds Try.pinned (OpenSpec.ofChange limitCostsSpec)

/-- ITS FALSE NEIGHBOUR: 'it returns false'. Refute it at one input. -/
def limitCostsWrong : ChangeSpec := { name := "limitCosts", fn := fun _ => fun
  | [d1, d2] => { results := [.lit (.bool false)], args := [d1, d2] }
  | _ => none }
def LimitCostsWrongFalsely : Prop := limitCostsRow.holds Try.pinned (OpenSpec.ofChange limitCostsWrong)

/- THE SECOND FORM. 'bulk': how many values and letters a reading holds, each counted each time it is reached (what is shared counts as often as it is met; a slice's spare places count too). A statement '..UptoSaid' is the law's where the arguments, and the package variables that the reading takes, are together of bulk at most 1048576: NARROWER than '..Said'. Prove '..Said' where nothing that the law and all that it calls make is longer than what came in: it says more and counts as full. Else prove '..UptoSaid'. A law counts once. -/
mutual
def uptoBulk {H : Type} : DataW H → Nat
  | .lit (.string bytes) => bytes.length + 1
  | .lit _ => 1
  | .nil => 1
  | .ptr d => uptoBulk d + 1
  | .slice elems spare => uptoBulkAll elems + uptoBulkAll spare + 1
  | .agg parts => uptoBulkAll parts + 1
  | .iface _ d => uptoBulk d + 1
  | .map entries => uptoBulkEntries entries + 1
  | .held _ => 1
def uptoBulkAll {H : Type} : List (DataW H) → Nat
  | [] => 0
  | d :: r => uptoBulk d + uptoBulkAll r
def uptoBulkEntries {H : Type} : List (Lit × DataW H) → Nat
  | [] => 0
  | x :: r => uptoBulkEntry x + uptoBulkEntries r
def uptoBulkEntry {H : Type} : Lit × DataW H → Nat
  | (.string bytes, d) => bytes.length + uptoBulk d + 1
  | (_, d) => uptoBulk d + 1
 end
def uptoSmall : (H : Type) → List (DataW H) → Bool := fun _ ds => decide (uptoBulkAll ds ≤ 1048576)
def OpenSpec.upto (s : _root_.Go.ChangeSpec) : _root_.Go.OpenSpec := { _root_.Go.OpenSpec.ofChange s with cond := some uptoSmall }

/-- 'duffellaw05.LimitLengths', WHERE WHAT IT READS IS OF BULK AT MOST 1048576: true; the input reads as it did. -/
def limitLengthsUptoRow : OpenClaim := { program := "ythgcfkmnolokpaa", sum := "91f7df859e1ebc90cb1a18d2c804c1b2df21179a6ec7bc416a7f33f46535255a", func := "duffel/duffellaw05.LimitLengths", spec := "limitLengths", unfollowed := true, recurses := true, apart := false, narrowed := true }
def LimitLengthsUptoSaid : Prop := limitLengthsUptoRow.holds Try.pinned (OpenSpec.upto limitLengthsSpec)

/-- 'duffellaw05.LimitFlat', WHERE WHAT IT READS IS OF BULK AT MOST 1048576: true; the input reads as it did. -/
def limitFlatUptoRow : OpenClaim := { program := "ythgcfkmnolokpaa", sum := "91f7df859e1ebc90cb1a18d2c804c1b2df21179a6ec7bc416a7f33f46535255a", func := "duffel/duffellaw05.LimitFlat", spec := "limitFlat", unfollowed := true, recurses := true, apart := false, narrowed := true }
def LimitFlatUptoSaid : Prop := limitFlatUptoRow.holds Try.pinned (OpenSpec.upto limitFlatSpec)

/-- 'duffellaw05.LimitBest', WHERE WHAT IT READS IS OF BULK AT MOST 1048576: true; the input reads as it did. -/
def limitBestUptoRow : OpenClaim := { program := "ythgcfkmnolokpaa", sum := "91f7df859e1ebc90cb1a18d2c804c1b2df21179a6ec7bc416a7f33f46535255a", func := "duffel/duffellaw05.LimitBest", spec := "limitBest", unfollowed := true, recurses := true, apart := false, narrowed := true }
def LimitBestUptoSaid : Prop := limitBestUptoRow.holds Try.pinned (OpenSpec.upto limitBestSpec)

/-- 'duffellaw05.LimitLeast', WHERE WHAT IT READS IS OF BULK AT MOST 1048576: true; the input reads as it did. -/
def limitLeastUptoRow : OpenClaim := { program := "ythgcfkmnolokpaa", sum := "91f7df859e1ebc90cb1a18d2c804c1b2df21179a6ec7bc416a7f33f46535255a", func := "duffel/duffellaw05.LimitLeast", spec := "limitLeast", unfollowed := true, recurses := true, apart := false, narrowed := true }
def LimitLeastUptoSaid : Prop := limitLeastUptoRow.holds Try.pinned (OpenSpec.upto limitLeastSpec)

/-- 'duffellaw05.LimitCosts', WHERE WHAT IT READS IS OF BULK AT MOST 1048576: true; the input reads as it did. -/
def limitCostsUptoRow : OpenClaim := { program := "ythgcfkmnolokpaa", sum := "91f7df859e1ebc90cb1a18d2c804c1b2df21179a6ec7bc416a7f33f46535255a", func := "duffel/duffellaw05.LimitCosts", spec := "limitCosts", unfollowed := true, recurses := true, apart := false, narrowed := true }
def LimitCostsUptoSaid : Prop := limitCostsUptoRow.holds Try.pinned (OpenSpec.upto limitCostsSpec)

end Rows
end Go.Proofs.Ythgcfkmnolokpaa
