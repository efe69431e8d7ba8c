/-
  DERIVED. GIVEN WITH THE SEED: THE CARDS: each row of YtnebigjgnfbcjaaDoorRows.lean that lists a variable, with what it lists TIED to the program's text (the seventh form; the later family's looks); each row that meets fmt, with fmt's text TOLD by the authors' own Lean function (tested against real Go, not proved from fmt's source: count such statements apart). THE CARD IS WHAT COUNTS. Prove the row's statement (the work); the ties are given (YtnebigjgnfbcjaaDoorTie.lean); close each card by the builder's one call (the guide's Derived/Test/ToyasCard.lean, 'card_holds'). Laid BY PROGRAM, IN A SANDBOX (cutbox-door.mjs). By AI agents, Wed Nov 11 2026. No macro, syntax, notation, axiom, sorry.
-/
import Derived.Test.YtnebigjgnfbcjaaDoorRows
import GoSem.ClaimSeven
namespace Go.Proofs.YtnebigjgnfbcjaaDoor
namespace Rows

/-- THE TIED CARD OF 'duffellaw18.InflateReads'. -/
def inflateReadsCard : Claim7 := { stood := { row := inflateReadsRow, standIns := [], harness := (true, "a398fb62b1d0dfceebf8002c5467869fc3db0c977554353fb2c50b451af78dbb"), looks := false }, kinds := [], alts := [], laidByText := true, laidKinds := [.data], laidTests := true, laidLooks := .later }
def InflateReadsCardSaid : Prop := Claim7.holds Tryd.pinned (.plain (OpenSpec.ofChange inflateReadsSpec)) inflateReadsCard

/-- THE TIED CARD OF 'duffellaw18.InflateBlocks'. -/
def inflateBlocksCard : Claim7 := { stood := { row := inflateBlocksRow, standIns := [], harness := (true, "a398fb62b1d0dfceebf8002c5467869fc3db0c977554353fb2c50b451af78dbb"), looks := false }, kinds := [], alts := [], laidByText := true, laidKinds := [.data], laidTests := true, laidLooks := .later }
def InflateBlocksCardSaid : Prop := Claim7.holds Tryd.pinned (.plain (OpenSpec.ofChange inflateBlocksSpec)) inflateBlocksCard

/-- THE TIED CARD OF 'duffellaw18.InflateBounds'. -/
def inflateBoundsCard : Claim7 := { stood := { row := inflateBoundsRow, standIns := [], harness := (true, "a398fb62b1d0dfceebf8002c5467869fc3db0c977554353fb2c50b451af78dbb"), looks := false }, kinds := [], alts := [], laidByText := true, laidKinds := [.data], laidTests := true, laidLooks := .later }
def InflateBoundsCardSaid : Prop := Claim7.holds Tryd.pinned (.plain (OpenSpec.ofChange inflateBoundsSpec)) inflateBoundsCard

/-- THE TIED CARD OF 'duffellaw18.InflateFixed'. -/
def inflateFixedCard : Claim7 := { stood := { row := inflateFixedRow, standIns := [], harness := (true, "a398fb62b1d0dfceebf8002c5467869fc3db0c977554353fb2c50b451af78dbb"), looks := false }, kinds := [], alts := [], laidByText := true, laidKinds := [.data], laidTests := true, laidLooks := .later }
def InflateFixedCardSaid : Prop := Claim7.holds Tryd.pinned (.plain (OpenSpec.ofChange inflateFixedSpec)) inflateFixedCard

/-- THE TIED CARD OF 'duffellaw18.InflateTells'. -/
def inflateTellsCard : Claim7 := { stood := { row := inflateTellsRow, standIns := [], harness := (true, "a398fb62b1d0dfceebf8002c5467869fc3db0c977554353fb2c50b451af78dbb"), looks := false }, kinds := [], alts := [], laidByText := true, laidKinds := [.data], laidTests := true, laidLooks := .later }
def InflateTellsCardSaid : Prop := Claim7.holds Tryd.pinned (.plain (OpenSpec.ofChange inflateTellsSpec)) inflateTellsCard

/-- THE SECOND FORM's CARD OF 'duffellaw18.InflateReads'. -/
def inflateReadsUptoCard : Claim7 := { stood := { row := inflateReadsUptoRow, standIns := [], harness := (true, "a398fb62b1d0dfceebf8002c5467869fc3db0c977554353fb2c50b451af78dbb"), looks := false }, kinds := [], alts := [], laidByText := true, laidKinds := [.data], laidTests := true, laidLooks := .later }
def InflateReadsUptoCardSaid : Prop := Claim7.holds Tryd.pinned (.plain (OpenSpec.upto inflateReadsSpec)) inflateReadsUptoCard

/-- THE SECOND FORM's CARD OF 'duffellaw18.InflateBlocks'. -/
def inflateBlocksUptoCard : Claim7 := { stood := { row := inflateBlocksUptoRow, standIns := [], harness := (true, "a398fb62b1d0dfceebf8002c5467869fc3db0c977554353fb2c50b451af78dbb"), looks := false }, kinds := [], alts := [], laidByText := true, laidKinds := [.data], laidTests := true, laidLooks := .later }
def InflateBlocksUptoCardSaid : Prop := Claim7.holds Tryd.pinned (.plain (OpenSpec.upto inflateBlocksSpec)) inflateBlocksUptoCard

/-- THE SECOND FORM's CARD OF 'duffellaw18.InflateBounds'. -/
def inflateBoundsUptoCard : Claim7 := { stood := { row := inflateBoundsUptoRow, standIns := [], harness := (true, "a398fb62b1d0dfceebf8002c5467869fc3db0c977554353fb2c50b451af78dbb"), looks := false }, kinds := [], alts := [], laidByText := true, laidKinds := [.data], laidTests := true, laidLooks := .later }
def InflateBoundsUptoCardSaid : Prop := Claim7.holds Tryd.pinned (.plain (OpenSpec.upto inflateBoundsSpec)) inflateBoundsUptoCard

/-- THE SECOND FORM's CARD OF 'duffellaw18.InflateFixed'. -/
def inflateFixedUptoCard : Claim7 := { stood := { row := inflateFixedUptoRow, standIns := [], harness := (true, "a398fb62b1d0dfceebf8002c5467869fc3db0c977554353fb2c50b451af78dbb"), looks := false }, kinds := [], alts := [], laidByText := true, laidKinds := [.data], laidTests := true, laidLooks := .later }
def InflateFixedUptoCardSaid : Prop := Claim7.holds Tryd.pinned (.plain (OpenSpec.upto inflateFixedSpec)) inflateFixedUptoCard

/-- THE SECOND FORM's CARD OF 'duffellaw18.InflateTells'. -/
def inflateTellsUptoCard : Claim7 := { stood := { row := inflateTellsUptoRow, standIns := [], harness := (true, "a398fb62b1d0dfceebf8002c5467869fc3db0c977554353fb2c50b451af78dbb"), looks := false }, kinds := [], alts := [], laidByText := true, laidKinds := [.data], laidTests := true, laidLooks := .later }
def InflateTellsUptoCardSaid : Prop := Claim7.holds Tryd.pinned (.plain (OpenSpec.upto inflateTellsSpec)) inflateTellsUptoCard
end Rows
end Go.Proofs.YtnebigjgnfbcjaaDoor
