/-
  No cell of these rows narrows 'for every input' (looked for: loops, veiled, ifaces, maps, wideKeys, modest, calm, conditions, laid).
  DERIVED. THE GIVEN ROWS OF THIS SEAT. 11 by the template 'for every input the law returns true; each argument reads behind the call as it read before'; 0 by the template 'total and deterministic' (their statements: YtgedlkmfhahdpaaTotals.lean).
  GIVEN WITH THE SEED: the statements are not yours to turn. If you find one false, say at which input.
  Laid BY PROGRAM, IN A SANDBOX (cutbox-rows.mjs): the forced cells as the released guide's own fill.sh prints them over the translation 09191cbeae8066c4… (all of the seat's roots in one cut). By AI agents, Wed Nov 11 2026. No macro, syntax, notation, axiom, sorry.
-/
import Derived.Test.YtgedlkmfhahdpaaChecked
import GoSem.Claim
import GoSem.ClaimJoined
import GoSem.ClaimMapViews
import Derived.JoinedTies
import Derived.KernelRfl
namespace Go.Proofs.Ytgedlkmfhahdpaa
/- THE CELL 'sum', in the pinned program and in every row, IS THE sha256 OF THE DUMP (.gsa) THAT YtgedlkmfhahdpaaProg.lean LOADS. Nothing in Lean hashes anything: it is a label: what it is worth is what the hold of that sum in a sandbox is worth. -/
noncomputable def Try.pinned : Pinned := { name := "ytgedlkmfhahdpaa", sum := "09191cbeae8066c4462795ae55759b5706aa4e5638c0f974cf0334ae74f91a99", checked := Try.checked }
namespace Rows
def none {H : Type} : Left H := { results := [], args := [] }

/-- 'duffellaw01.BitioPieces': WHATEVER THE INPUT: true; the input reads as it did. -/
def bitioPiecesSpec : ChangeSpec := { name := "bitioPieces", fn := fun _ => fun
  | [d1, d2] => { results := [.lit (.bool true)], args := [d1, d2] }
  | _ => none }
def bitioPiecesRow : OpenClaim := { program := "ytgedlkmfhahdpaa", sum := "09191cbeae8066c4462795ae55759b5706aa4e5638c0f974cf0334ae74f91a99", func := "duffel/duffellaw01.BitioPieces", spec := "bitioPieces", apart := false }
def BitioPiecesSaid : Prop := bitioPiecesRow.holds Try.pinned (OpenSpec.ofChange bitioPiecesSpec)

/-- ITS FALSE NEIGHBOUR: 'it returns false'. Refute it at one input. -/
def bitioPiecesWrong : ChangeSpec := { name := "bitioPieces", fn := fun _ => fun
  | [d1, d2] => { results := [.lit (.bool false)], args := [d1, d2] }
  | _ => none }
def BitioPiecesWrongFalsely : Prop := bitioPiecesRow.holds Try.pinned (OpenSpec.ofChange bitioPiecesWrong)

/-- 'duffellaw01.BitioTurns': WHATEVER THE INPUT: true; the input reads as it did. -/
def bitioTurnsSpec : ChangeSpec := { name := "bitioTurns", fn := fun _ => fun
  | [d1, d2] => { results := [.lit (.bool true)], args := [d1, d2] }
  | _ => none }
def bitioTurnsRow : OpenClaim := { program := "ytgedlkmfhahdpaa", sum := "09191cbeae8066c4462795ae55759b5706aa4e5638c0f974cf0334ae74f91a99", func := "duffel/duffellaw01.BitioTurns", spec := "bitioTurns", apart := false }
def BitioTurnsSaid : Prop := bitioTurnsRow.holds Try.pinned (OpenSpec.ofChange bitioTurnsSpec)

/-- ITS FALSE NEIGHBOUR: 'it returns false'. Refute it at one input. -/
def bitioTurnsWrong : ChangeSpec := { name := "bitioTurns", fn := fun _ => fun
  | [d1, d2] => { results := [.lit (.bool false)], args := [d1, d2] }
  | _ => none }
def BitioTurnsWrongFalsely : Prop := bitioTurnsRow.holds Try.pinned (OpenSpec.ofChange bitioTurnsWrong)

/-- 'duffellaw07.HistOver': WHATEVER THE INPUT: true; the input reads as it did. -/
def histOverSpec : ChangeSpec := { name := "histOver", fn := fun _ => fun
  | [d1, d2, d3] => { results := [.lit (.bool true)], args := [d1, d2, d3] }
  | _ => none }
def histOverRow : OpenClaim := { program := "ytgedlkmfhahdpaa", sum := "09191cbeae8066c4462795ae55759b5706aa4e5638c0f974cf0334ae74f91a99", func := "duffel/duffellaw07.HistOver", spec := "histOver", apart := false }
def HistOverSaid : Prop := histOverRow.holds Try.pinned (OpenSpec.ofChange histOverSpec)

/-- ITS FALSE NEIGHBOUR: 'it returns false'. Refute it at one input. -/
def histOverWrong : ChangeSpec := { name := "histOver", fn := fun _ => fun
  | [d1, d2, d3] => { results := [.lit (.bool false)], args := [d1, d2, d3] }
  | _ => none }
def HistOverWrongFalsely : Prop := histOverRow.holds Try.pinned (OpenSpec.ofChange histOverWrong)

/-- 'duffellaw07.HistTwo': WHATEVER THE INPUT: true; the input reads as it did. -/
def histTwoSpec : ChangeSpec := { name := "histTwo", fn := fun _ => fun
  | [d1, d2, d3, d4, d5] => { results := [.lit (.bool true)], args := [d1, d2, d3, d4, d5] }
  | _ => none }
def histTwoRow : OpenClaim := { program := "ytgedlkmfhahdpaa", sum := "09191cbeae8066c4462795ae55759b5706aa4e5638c0f974cf0334ae74f91a99", func := "duffel/duffellaw07.HistTwo", spec := "histTwo", apart := false }
def HistTwoSaid : Prop := histTwoRow.holds Try.pinned (OpenSpec.ofChange histTwoSpec)

/-- ITS FALSE NEIGHBOUR: 'it returns false'. Refute it at one input. -/
def histTwoWrong : ChangeSpec := { name := "histTwo", fn := fun _ => fun
  | [d1, d2, d3, d4, d5] => { results := [.lit (.bool false)], args := [d1, d2, d3, d4, d5] }
  | _ => none }
def HistTwoWrongFalsely : Prop := histTwoRow.holds Try.pinned (OpenSpec.ofChange histTwoWrong)

/-- 'duffellaw07.HistRoom': WHATEVER THE INPUT: true; the input reads as it did. -/
def histRoomSpec : ChangeSpec := { name := "histRoom", fn := fun _ => fun
  | [d1, d2, d3, d4] => { results := [.lit (.bool true)], args := [d1, d2, d3, d4] }
  | _ => none }
def histRoomRow : OpenClaim := { program := "ytgedlkmfhahdpaa", sum := "09191cbeae8066c4462795ae55759b5706aa4e5638c0f974cf0334ae74f91a99", func := "duffel/duffellaw07.HistRoom", spec := "histRoom", apart := false }
def HistRoomSaid : Prop := histRoomRow.holds Try.pinned (OpenSpec.ofChange histRoomSpec)

/-- ITS FALSE NEIGHBOUR: 'it returns false'. Refute it at one input. -/
def histRoomWrong : ChangeSpec := { name := "histRoom", fn := fun _ => fun
  | [d1, d2, d3, d4] => { results := [.lit (.bool false)], args := [d1, d2, d3, d4] }
  | _ => none }
def HistRoomWrongFalsely : Prop := histRoomRow.holds Try.pinned (OpenSpec.ofChange histRoomWrong)

/-- 'duffellaw07.HistPlays': WHATEVER THE INPUT: true; the input reads as it did. -/
def histPlaysSpec : ChangeSpec := { name := "histPlays", fn := fun _ => fun
  | [d1, d2, d3, d4] => { results := [.lit (.bool true)], args := [d1, d2, d3, d4] }
  | _ => none }
def histPlaysRow : OpenClaim := { program := "ytgedlkmfhahdpaa", sum := "09191cbeae8066c4462795ae55759b5706aa4e5638c0f974cf0334ae74f91a99", func := "duffel/duffellaw07.HistPlays", spec := "histPlays", apart := false }
def HistPlaysSaid : Prop := histPlaysRow.holds Try.pinned (OpenSpec.ofChange histPlaysSpec)

/-- ITS FALSE NEIGHBOUR: 'it returns false'. Refute it at one input. -/
def histPlaysWrong : ChangeSpec := { name := "histPlays", fn := fun _ => fun
  | [d1, d2, d3, d4] => { results := [.lit (.bool false)], args := [d1, d2, d3, d4] }
  | _ => none }
def HistPlaysWrongFalsely : Prop := histPlaysRow.holds Try.pinned (OpenSpec.ofChange histPlaysWrong)

/-- 'duffellaw07.HistNobody': WHATEVER THE INPUT: true; the input reads as it did. -/
def histNobodySpec : ChangeSpec := { name := "histNobody", fn := fun _ => fun
  | [d1, d2, d3] => { results := [.lit (.bool true)], args := [d1, d2, d3] }
  | _ => none }
def histNobodyRow : OpenClaim := { program := "ytgedlkmfhahdpaa", sum := "09191cbeae8066c4462795ae55759b5706aa4e5638c0f974cf0334ae74f91a99", func := "duffel/duffellaw07.HistNobody", spec := "histNobody", apart := false }
def HistNobodySaid : Prop := histNobodyRow.holds Try.pinned (OpenSpec.ofChange histNobodySpec)

/-- ITS FALSE NEIGHBOUR: 'it returns false'. Refute it at one input. -/
def histNobodyWrong : ChangeSpec := { name := "histNobody", fn := fun _ => fun
  | [d1, d2, d3] => { results := [.lit (.bool false)], args := [d1, d2, d3] }
  | _ => none }
def HistNobodyWrongFalsely : Prop := histNobodyRow.holds Try.pinned (OpenSpec.ofChange histNobodyWrong)

/-- 'duffellaw01.BitioWrites': WHATEVER THE INPUT: true; the input reads as it did. -/
def bitioWritesSpec : ChangeSpec := { name := "bitioWrites", fn := fun _ => fun
  | [d] => { results := [.lit (.bool true)], args := [d] }
  | _ => none }
def bitioWritesRow : OpenClaim := { program := "ytgedlkmfhahdpaa", sum := "09191cbeae8066c4462795ae55759b5706aa4e5638c0f974cf0334ae74f91a99", func := "duffel/duffellaw01.BitioWrites", spec := "bitioWrites", apart := false }
def BitioWritesSaid : Prop := bitioWritesRow.holds Try.pinned (OpenSpec.ofChange bitioWritesSpec)

/-- ITS FALSE NEIGHBOUR: 'it returns false'. Refute it at one input. -/
def bitioWritesWrong : ChangeSpec := { name := "bitioWrites", fn := fun _ => fun
  | [d] => { results := [.lit (.bool false)], args := [d] }
  | _ => none }
def BitioWritesWrongFalsely : Prop := bitioWritesRow.holds Try.pinned (OpenSpec.ofChange bitioWritesWrong)

/-- 'duffellaw01.BitioBack': WHATEVER THE INPUT: true; the input reads as it did. -/
def bitioBackSpec : ChangeSpec := { name := "bitioBack", fn := fun _ => fun
  | [d] => { results := [.lit (.bool true)], args := [d] }
  | _ => none }
def bitioBackRow : OpenClaim := { program := "ytgedlkmfhahdpaa", sum := "09191cbeae8066c4462795ae55759b5706aa4e5638c0f974cf0334ae74f91a99", func := "duffel/duffellaw01.BitioBack", spec := "bitioBack", apart := false }
def BitioBackSaid : Prop := bitioBackRow.holds Try.pinned (OpenSpec.ofChange bitioBackSpec)

/-- ITS FALSE NEIGHBOUR: 'it returns false'. Refute it at one input. -/
def bitioBackWrong : ChangeSpec := { name := "bitioBack", fn := fun _ => fun
  | [d] => { results := [.lit (.bool false)], args := [d] }
  | _ => none }
def BitioBackWrongFalsely : Prop := bitioBackRow.holds Try.pinned (OpenSpec.ofChange bitioBackWrong)

/-- 'duffellaw01.BitioReads': WHATEVER THE INPUT: true; the input reads as it did. -/
def bitioReadsSpec : ChangeSpec := { name := "bitioReads", fn := fun _ => fun
  | [d1, d2] => { results := [.lit (.bool true)], args := [d1, d2] }
  | _ => none }
def bitioReadsRow : OpenClaim := { program := "ytgedlkmfhahdpaa", sum := "09191cbeae8066c4462795ae55759b5706aa4e5638c0f974cf0334ae74f91a99", func := "duffel/duffellaw01.BitioReads", spec := "bitioReads", apart := false }
def BitioReadsSaid : Prop := bitioReadsRow.holds Try.pinned (OpenSpec.ofChange bitioReadsSpec)

/-- ITS FALSE NEIGHBOUR: 'it returns false'. Refute it at one input. -/
def bitioReadsWrong : ChangeSpec := { name := "bitioReads", fn := fun _ => fun
  | [d1, d2] => { results := [.lit (.bool false)], args := [d1, d2] }
  | _ => none }
def BitioReadsWrongFalsely : Prop := bitioReadsRow.holds Try.pinned (OpenSpec.ofChange bitioReadsWrong)

/-- 'duffellaw01.BitioNobody': WHATEVER THE INPUT: true; the input reads as it did. -/
def bitioNobodySpec : ChangeSpec := { name := "bitioNobody", fn := fun _ => fun
  | [d1, d2, d3] => { results := [.lit (.bool true)], args := [d1, d2, d3] }
  | _ => none }
def bitioNobodyRow : OpenClaim := { program := "ytgedlkmfhahdpaa", sum := "09191cbeae8066c4462795ae55759b5706aa4e5638c0f974cf0334ae74f91a99", func := "duffel/duffellaw01.BitioNobody", spec := "bitioNobody", apart := false }
def BitioNobodySaid : Prop := bitioNobodyRow.holds Try.pinned (OpenSpec.ofChange bitioNobodySpec)

/-- ITS FALSE NEIGHBOUR: 'it returns false'. Refute it at one input. -/
def bitioNobodyWrong : ChangeSpec := { name := "bitioNobody", fn := fun _ => fun
  | [d1, d2, d3] => { results := [.lit (.bool false)], args := [d1, d2, d3] }
  | _ => none }
def BitioNobodyWrongFalsely : Prop := bitioNobodyRow.holds Try.pinned (OpenSpec.ofChange bitioNobodyWrong)

/- THE SECOND FORM. 'bulk': how many values and letters a reading holds, each counted each time it is reached (what is shared counts as often as it is met; a slice's spare places count too). A statement '..UptoSaid' is the law's where the arguments, and the package variables that the reading takes, are together of bulk at most 1048576: NARROWER than '..Said'. Prove '..Said' where nothing that the law and all that it calls make is longer than what came in: it says more and counts as full. Else prove '..UptoSaid'. A law counts once. -/
mutual
def uptoBulk {H : Type} : DataW H → Nat
  | .lit (.string bytes) => bytes.length + 1
  | .lit _ => 1
  | .nil => 1
  | .ptr d => uptoBulk d + 1
  | .slice elems spare => uptoBulkAll elems + uptoBulkAll spare + 1
  | .agg parts => uptoBulkAll parts + 1
  | .iface _ d => uptoBulk d + 1
  | .map entries => uptoBulkEntries entries + 1
  | .held _ => 1
def uptoBulkAll {H : Type} : List (DataW H) → Nat
  | [] => 0
  | d :: r => uptoBulk d + uptoBulkAll r
def uptoBulkEntries {H : Type} : List (Lit × DataW H) → Nat
  | [] => 0
  | x :: r => uptoBulkEntry x + uptoBulkEntries r
def uptoBulkEntry {H : Type} : Lit × DataW H → Nat
  | (.string bytes, d) => bytes.length + uptoBulk d + 1
  | (_, d) => uptoBulk d + 1
 end
def uptoSmall : (H : Type) → List (DataW H) → Bool := fun _ ds => decide (uptoBulkAll ds ≤ 1048576)
def OpenSpec.upto (s : _root_.Go.ChangeSpec) : _root_.Go.OpenSpec := { _root_.Go.OpenSpec.ofChange s with cond := some uptoSmall }

/-- 'duffellaw01.BitioPieces', WHERE WHAT IT READS IS OF BULK AT MOST 1048576: true; the input reads as it did. -/
def bitioPiecesUptoRow : OpenClaim := { program := "ytgedlkmfhahdpaa", sum := "09191cbeae8066c4462795ae55759b5706aa4e5638c0f974cf0334ae74f91a99", func := "duffel/duffellaw01.BitioPieces", spec := "bitioPieces", apart := false, narrowed := true }
def BitioPiecesUptoSaid : Prop := bitioPiecesUptoRow.holds Try.pinned (OpenSpec.upto bitioPiecesSpec)

/-- 'duffellaw01.BitioTurns', WHERE WHAT IT READS IS OF BULK AT MOST 1048576: true; the input reads as it did. -/
def bitioTurnsUptoRow : OpenClaim := { program := "ytgedlkmfhahdpaa", sum := "09191cbeae8066c4462795ae55759b5706aa4e5638c0f974cf0334ae74f91a99", func := "duffel/duffellaw01.BitioTurns", spec := "bitioTurns", apart := false, narrowed := true }
def BitioTurnsUptoSaid : Prop := bitioTurnsUptoRow.holds Try.pinned (OpenSpec.upto bitioTurnsSpec)

/-- 'duffellaw07.HistOver', WHERE WHAT IT READS IS OF BULK AT MOST 1048576: true; the input reads as it did. -/
def histOverUptoRow : OpenClaim := { program := "ytgedlkmfhahdpaa", sum := "09191cbeae8066c4462795ae55759b5706aa4e5638c0f974cf0334ae74f91a99", func := "duffel/duffellaw07.HistOver", spec := "histOver", apart := false, narrowed := true }
def HistOverUptoSaid : Prop := histOverUptoRow.holds Try.pinned (OpenSpec.upto histOverSpec)

/-- 'duffellaw07.HistTwo', WHERE WHAT IT READS IS OF BULK AT MOST 1048576: true; the input reads as it did. -/
def histTwoUptoRow : OpenClaim := { program := "ytgedlkmfhahdpaa", sum := "09191cbeae8066c4462795ae55759b5706aa4e5638c0f974cf0334ae74f91a99", func := "duffel/duffellaw07.HistTwo", spec := "histTwo", apart := false, narrowed := true }
def HistTwoUptoSaid : Prop := histTwoUptoRow.holds Try.pinned (OpenSpec.upto histTwoSpec)

/-- 'duffellaw07.HistRoom', WHERE WHAT IT READS IS OF BULK AT MOST 1048576: true; the input reads as it did. -/
def histRoomUptoRow : OpenClaim := { program := "ytgedlkmfhahdpaa", sum := "09191cbeae8066c4462795ae55759b5706aa4e5638c0f974cf0334ae74f91a99", func := "duffel/duffellaw07.HistRoom", spec := "histRoom", apart := false, narrowed := true }
def HistRoomUptoSaid : Prop := histRoomUptoRow.holds Try.pinned (OpenSpec.upto histRoomSpec)

/-- 'duffellaw07.HistPlays', WHERE WHAT IT READS IS OF BULK AT MOST 1048576: true; the input reads as it did. -/
def histPlaysUptoRow : OpenClaim := { program := "ytgedlkmfhahdpaa", sum := "09191cbeae8066c4462795ae55759b5706aa4e5638c0f974cf0334ae74f91a99", func := "duffel/duffellaw07.HistPlays", spec := "histPlays", apart := false, narrowed := true }
def HistPlaysUptoSaid : Prop := histPlaysUptoRow.holds Try.pinned (OpenSpec.upto histPlaysSpec)

/-- 'duffellaw07.HistNobody', WHERE WHAT IT READS IS OF BULK AT MOST 1048576: true; the input reads as it did. -/
def histNobodyUptoRow : OpenClaim := { program := "ytgedlkmfhahdpaa", sum := "09191cbeae8066c4462795ae55759b5706aa4e5638c0f974cf0334ae74f91a99", func := "duffel/duffellaw07.HistNobody", spec := "histNobody", apart := false, narrowed := true }
def HistNobodyUptoSaid : Prop := histNobodyUptoRow.holds Try.pinned (OpenSpec.upto histNobodySpec)

/-- 'duffellaw01.BitioWrites', WHERE WHAT IT READS IS OF BULK AT MOST 1048576: true; the input reads as it did. -/
def bitioWritesUptoRow : OpenClaim := { program := "ytgedlkmfhahdpaa", sum := "09191cbeae8066c4462795ae55759b5706aa4e5638c0f974cf0334ae74f91a99", func := "duffel/duffellaw01.BitioWrites", spec := "bitioWrites", apart := false, narrowed := true }
def BitioWritesUptoSaid : Prop := bitioWritesUptoRow.holds Try.pinned (OpenSpec.upto bitioWritesSpec)

/-- 'duffellaw01.BitioBack', WHERE WHAT IT READS IS OF BULK AT MOST 1048576: true; the input reads as it did. -/
def bitioBackUptoRow : OpenClaim := { program := "ytgedlkmfhahdpaa", sum := "09191cbeae8066c4462795ae55759b5706aa4e5638c0f974cf0334ae74f91a99", func := "duffel/duffellaw01.BitioBack", spec := "bitioBack", apart := false, narrowed := true }
def BitioBackUptoSaid : Prop := bitioBackUptoRow.holds Try.pinned (OpenSpec.upto bitioBackSpec)

/-- 'duffellaw01.BitioReads', WHERE WHAT IT READS IS OF BULK AT MOST 1048576: true; the input reads as it did. -/
def bitioReadsUptoRow : OpenClaim := { program := "ytgedlkmfhahdpaa", sum := "09191cbeae8066c4462795ae55759b5706aa4e5638c0f974cf0334ae74f91a99", func := "duffel/duffellaw01.BitioReads", spec := "bitioReads", apart := false, narrowed := true }
def BitioReadsUptoSaid : Prop := bitioReadsUptoRow.holds Try.pinned (OpenSpec.upto bitioReadsSpec)

/-- 'duffellaw01.BitioNobody', WHERE WHAT IT READS IS OF BULK AT MOST 1048576: true; the input reads as it did. -/
def bitioNobodyUptoRow : OpenClaim := { program := "ytgedlkmfhahdpaa", sum := "09191cbeae8066c4462795ae55759b5706aa4e5638c0f974cf0334ae74f91a99", func := "duffel/duffellaw01.BitioNobody", spec := "bitioNobody", apart := false, narrowed := true }
def BitioNobodyUptoSaid : Prop := bitioNobodyUptoRow.holds Try.pinned (OpenSpec.upto bitioNobodySpec)

end Rows
end Go.Proofs.Ytgedlkmfhahdpaa
