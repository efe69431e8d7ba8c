/-
  No cell of these rows narrows 'for every input' (looked for: loops, veiled, ifaces, maps, wideKeys, modest, calm, conditions, laid).
  DERIVED. THE GIVEN ROWS OF THIS SEAT. 5 by the template 'for every input the law returns true; each argument reads behind the call as it read before'; 0 by the template 'total and deterministic' (their statements: YtfoablnfofmeeaaTotals.lean).
  GIVEN WITH THE SEED: the statements are not yours to turn. If you find one false, say at which input.
  Laid BY PROGRAM, IN A SANDBOX (cutbox-rows.mjs): the forced cells as the released guide's own fill.sh prints them over the translation e89dd6b0c1c1877e… (all of the seat's roots in one cut). By AI agents, Wed Nov 11 2026. No macro, syntax, notation, axiom, sorry.
-/
import Derived.Test.YtfoablnfofmeeaaChecked
import GoSem.Claim
import GoSem.ClaimJoined
import GoSem.ClaimMapViews
import Derived.JoinedTies
import Derived.KernelRfl
namespace Go.Proofs.Ytfoablnfofmeeaa
/- THE CELL 'sum', in the pinned program and in every row, IS THE sha256 OF THE DUMP (.gsa) THAT YtfoablnfofmeeaaProg.lean LOADS. Nothing in Lean hashes anything: it is a label: what it is worth is what the hold of that sum in a sandbox is worth. -/
noncomputable def Try.pinned : Pinned := { name := "ytfoablnfofmeeaa", sum := "e89dd6b0c1c1877e8d44aae0ea07073f8d8a9f788ae8daeff875c231ef530572", checked := Try.checked }
namespace Rows
def none {H : Type} : Left H := { results := [], args := [] }

/-- 'duffellaw10.LzwGrows': WHATEVER THE INPUT: true; the input reads as it did. -/
def lzwGrowsSpec : ChangeSpec := { name := "lzwGrows", fn := fun _ => fun
  | [d1, d2, d3, d4] => { results := [.lit (.bool true)], args := [d1, d2, d3, d4] }
  | _ => none }
def lzwGrowsRow : OpenClaim := { program := "ytfoablnfofmeeaa", sum := "e89dd6b0c1c1877e8d44aae0ea07073f8d8a9f788ae8daeff875c231ef530572", func := "duffel/duffellaw10.LzwGrows", spec := "lzwGrows", plainKeys := false, apart := false }
def LzwGrowsSaid : Prop := lzwGrowsRow.holds Try.pinned (OpenSpec.ofChange lzwGrowsSpec)

/-- ITS FALSE NEIGHBOUR: 'it returns false'. Refute it at one input. -/
def lzwGrowsWrong : ChangeSpec := { name := "lzwGrows", fn := fun _ => fun
  | [d1, d2, d3, d4] => { results := [.lit (.bool false)], args := [d1, d2, d3, d4] }
  | _ => none }
def LzwGrowsWrongFalsely : Prop := lzwGrowsRow.holds Try.pinned (OpenSpec.ofChange lzwGrowsWrong)

/-- 'duffellaw10.LzwFull': WHATEVER THE INPUT: true; the input reads as it did. -/
def lzwFullSpec : ChangeSpec := { name := "lzwFull", fn := fun _ => fun
  | [d1, d2] => { results := [.lit (.bool true)], args := [d1, d2] }
  | _ => none }
def lzwFullRow : OpenClaim := { program := "ytfoablnfofmeeaa", sum := "e89dd6b0c1c1877e8d44aae0ea07073f8d8a9f788ae8daeff875c231ef530572", func := "duffel/duffellaw10.LzwFull", spec := "lzwFull", plainKeys := false, apart := false }
def LzwFullSaid : Prop := lzwFullRow.holds Try.pinned (OpenSpec.ofChange lzwFullSpec)

/-- ITS FALSE NEIGHBOUR: 'it returns false'. Refute it at one input. -/
def lzwFullWrong : ChangeSpec := { name := "lzwFull", fn := fun _ => fun
  | [d1, d2] => { results := [.lit (.bool false)], args := [d1, d2] }
  | _ => none }
def LzwFullWrongFalsely : Prop := lzwFullRow.holds Try.pinned (OpenSpec.ofChange lzwFullWrong)

/-- 'duffellaw10.LzwClears': WHATEVER THE INPUT: true; the input reads as it did. -/
def lzwClearsSpec : ChangeSpec := { name := "lzwClears", fn := fun _ => fun
  | [d] => { results := [.lit (.bool true)], args := [d] }
  | _ => none }
def lzwClearsRow : OpenClaim := { program := "ytfoablnfofmeeaa", sum := "e89dd6b0c1c1877e8d44aae0ea07073f8d8a9f788ae8daeff875c231ef530572", func := "duffel/duffellaw10.LzwClears", spec := "lzwClears", plainKeys := false, apart := false }
def LzwClearsSaid : Prop := lzwClearsRow.holds Try.pinned (OpenSpec.ofChange lzwClearsSpec)

/-- ITS FALSE NEIGHBOUR: 'it returns false'. Refute it at one input. -/
def lzwClearsWrong : ChangeSpec := { name := "lzwClears", fn := fun _ => fun
  | [d] => { results := [.lit (.bool false)], args := [d] }
  | _ => none }
def LzwClearsWrongFalsely : Prop := lzwClearsRow.holds Try.pinned (OpenSpec.ofChange lzwClearsWrong)

/-- 'duffellaw10.LzwPlays': WHATEVER THE INPUT: true; the input reads as it did. -/
def lzwPlaysSpec : ChangeSpec := { name := "lzwPlays", fn := fun _ => fun
  | [d] => { results := [.lit (.bool true)], args := [d] }
  | _ => none }
def lzwPlaysRow : OpenClaim := { program := "ytfoablnfofmeeaa", sum := "e89dd6b0c1c1877e8d44aae0ea07073f8d8a9f788ae8daeff875c231ef530572", func := "duffel/duffellaw10.LzwPlays", spec := "lzwPlays", plainKeys := false, apart := false }
def LzwPlaysSaid : Prop := lzwPlaysRow.holds Try.pinned (OpenSpec.ofChange lzwPlaysSpec)

/-- ITS FALSE NEIGHBOUR: 'it returns false'. Refute it at one input. -/
def lzwPlaysWrong : ChangeSpec := { name := "lzwPlays", fn := fun _ => fun
  | [d] => { results := [.lit (.bool false)], args := [d] }
  | _ => none }
def LzwPlaysWrongFalsely : Prop := lzwPlaysRow.holds Try.pinned (OpenSpec.ofChange lzwPlaysWrong)

/-- 'duffellaw10.LzwNobody': WHATEVER THE INPUT: true; the input reads as it did. -/
def lzwNobodySpec : ChangeSpec := { name := "lzwNobody", fn := fun _ => fun
  | [d1, d2] => { results := [.lit (.bool true)], args := [d1, d2] }
  | _ => none }
def lzwNobodyRow : OpenClaim := { program := "ytfoablnfofmeeaa", sum := "e89dd6b0c1c1877e8d44aae0ea07073f8d8a9f788ae8daeff875c231ef530572", func := "duffel/duffellaw10.LzwNobody", spec := "lzwNobody", plainKeys := false, apart := false }
def LzwNobodySaid : Prop := lzwNobodyRow.holds Try.pinned (OpenSpec.ofChange lzwNobodySpec)

/-- ITS FALSE NEIGHBOUR: 'it returns false'. Refute it at one input. -/
def lzwNobodyWrong : ChangeSpec := { name := "lzwNobody", fn := fun _ => fun
  | [d1, d2] => { results := [.lit (.bool false)], args := [d1, d2] }
  | _ => none }
def LzwNobodyWrongFalsely : Prop := lzwNobodyRow.holds Try.pinned (OpenSpec.ofChange lzwNobodyWrong)

/- THE SECOND FORM. 'bulk': how many values and letters a reading holds, each counted each time it is reached (what is shared counts as often as it is met; a slice's spare places count too). A statement '..UptoSaid' is the law's where the arguments, and the package variables that the reading takes, are together of bulk at most 1048576: NARROWER than '..Said'. Prove '..Said' where nothing that the law and all that it calls make is longer than what came in: it says more and counts as full. Else prove '..UptoSaid'. A law counts once. -/
mutual
def uptoBulk {H : Type} : DataW H → Nat
  | .lit (.string bytes) => bytes.length + 1
  | .lit _ => 1
  | .nil => 1
  | .ptr d => uptoBulk d + 1
  | .slice elems spare => uptoBulkAll elems + uptoBulkAll spare + 1
  | .agg parts => uptoBulkAll parts + 1
  | .iface _ d => uptoBulk d + 1
  | .map entries => uptoBulkEntries entries + 1
  | .held _ => 1
def uptoBulkAll {H : Type} : List (DataW H) → Nat
  | [] => 0
  | d :: r => uptoBulk d + uptoBulkAll r
def uptoBulkEntries {H : Type} : List (Lit × DataW H) → Nat
  | [] => 0
  | x :: r => uptoBulkEntry x + uptoBulkEntries r
def uptoBulkEntry {H : Type} : Lit × DataW H → Nat
  | (.string bytes, d) => bytes.length + uptoBulk d + 1
  | (_, d) => uptoBulk d + 1
 end
def uptoSmall : (H : Type) → List (DataW H) → Bool := fun _ ds => decide (uptoBulkAll ds ≤ 1048576)
def OpenSpec.upto (s : _root_.Go.ChangeSpec) : _root_.Go.OpenSpec := { _root_.Go.OpenSpec.ofChange s with cond := some uptoSmall }

/-- 'duffellaw10.LzwGrows', WHERE WHAT IT READS IS OF BULK AT MOST 1048576: true; the input reads as it did. -/
def lzwGrowsUptoRow : OpenClaim := { program := "ytfoablnfofmeeaa", sum := "e89dd6b0c1c1877e8d44aae0ea07073f8d8a9f788ae8daeff875c231ef530572", func := "duffel/duffellaw10.LzwGrows", spec := "lzwGrows", plainKeys := false, apart := false, narrowed := true }
def LzwGrowsUptoSaid : Prop := lzwGrowsUptoRow.holds Try.pinned (OpenSpec.upto lzwGrowsSpec)

/-- 'duffellaw10.LzwFull', WHERE WHAT IT READS IS OF BULK AT MOST 1048576: true; the input reads as it did. -/
def lzwFullUptoRow : OpenClaim := { program := "ytfoablnfofmeeaa", sum := "e89dd6b0c1c1877e8d44aae0ea07073f8d8a9f788ae8daeff875c231ef530572", func := "duffel/duffellaw10.LzwFull", spec := "lzwFull", plainKeys := false, apart := false, narrowed := true }
def LzwFullUptoSaid : Prop := lzwFullUptoRow.holds Try.pinned (OpenSpec.upto lzwFullSpec)

/-- 'duffellaw10.LzwClears', WHERE WHAT IT READS IS OF BULK AT MOST 1048576: true; the input reads as it did. -/
def lzwClearsUptoRow : OpenClaim := { program := "ytfoablnfofmeeaa", sum := "e89dd6b0c1c1877e8d44aae0ea07073f8d8a9f788ae8daeff875c231ef530572", func := "duffel/duffellaw10.LzwClears", spec := "lzwClears", plainKeys := false, apart := false, narrowed := true }
def LzwClearsUptoSaid : Prop := lzwClearsUptoRow.holds Try.pinned (OpenSpec.upto lzwClearsSpec)

/-- 'duffellaw10.LzwPlays', WHERE WHAT IT READS IS OF BULK AT MOST 1048576: true; the input reads as it did. -/
def lzwPlaysUptoRow : OpenClaim := { program := "ytfoablnfofmeeaa", sum := "e89dd6b0c1c1877e8d44aae0ea07073f8d8a9f788ae8daeff875c231ef530572", func := "duffel/duffellaw10.LzwPlays", spec := "lzwPlays", plainKeys := false, apart := false, narrowed := true }
def LzwPlaysUptoSaid : Prop := lzwPlaysUptoRow.holds Try.pinned (OpenSpec.upto lzwPlaysSpec)

/-- 'duffellaw10.LzwNobody', WHERE WHAT IT READS IS OF BULK AT MOST 1048576: true; the input reads as it did. -/
def lzwNobodyUptoRow : OpenClaim := { program := "ytfoablnfofmeeaa", sum := "e89dd6b0c1c1877e8d44aae0ea07073f8d8a9f788ae8daeff875c231ef530572", func := "duffel/duffellaw10.LzwNobody", spec := "lzwNobody", plainKeys := false, apart := false, narrowed := true }
def LzwNobodyUptoSaid : Prop := lzwNobodyUptoRow.holds Try.pinned (OpenSpec.upto lzwNobodySpec)

end Rows
end Go.Proofs.Ytfoablnfofmeeaa
