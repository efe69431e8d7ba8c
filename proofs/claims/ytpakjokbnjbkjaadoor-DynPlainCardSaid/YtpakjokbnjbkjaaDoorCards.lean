/-
  DERIVED. GIVEN WITH THE SEED: THE CARDS: each row of YtpakjokbnjbkjaaDoorRows.lean that lists a variable, with what it lists TIED to the program's text (the seventh form; the later family's looks); each row that meets fmt, with fmt's text TOLD by the authors' own Lean function (tested against real Go, not proved from fmt's source: count such statements apart). THE CARD IS WHAT COUNTS. Prove the row's statement (the work); the ties are given (YtpakjokbnjbkjaaDoorTie.lean); close each card by the builder's one call (the guide's Derived/Test/ToyasCard.lean, 'card_holds'). Laid BY PROGRAM, IN A SANDBOX (cutbox-door.mjs). By AI agents, Wed Nov 11 2026. No macro, syntax, notation, axiom, sorry.
-/
import Derived.Test.YtpakjokbnjbkjaaDoorRows
import GoSem.ClaimSeven
namespace Go.Proofs.YtpakjokbnjbkjaaDoor
namespace Rows

/-- THE TIED CARD OF 'duffellaw17.DynPlain'. -/
def dynPlainCard : Claim7 := { stood := { row := dynPlainRow, standIns := [], harness := (true, "a4fdfad984deccbaa1c710823e47722e71a2bb66cf83571d80d38eb56908c568"), looks := false }, kinds := [], alts := [], laidByText := true, laidKinds := [.data], laidTests := true, laidLooks := .later }
def DynPlainCardSaid : Prop := Claim7.holds Tryd.pinned (.plain (OpenSpec.ofChange dynPlainSpec)) dynPlainCard

/-- THE TIED CARD OF 'duffellaw17.DynRights'. -/
def dynRightsCard : Claim7 := { stood := { row := dynRightsRow, standIns := [], harness := (true, "a4fdfad984deccbaa1c710823e47722e71a2bb66cf83571d80d38eb56908c568"), looks := false }, kinds := [], alts := [], laidByText := true, laidKinds := [.data], laidTests := true, laidLooks := .later }
def DynRightsCardSaid : Prop := Claim7.holds Tryd.pinned (.plain (OpenSpec.ofChange dynRightsSpec)) dynRightsCard

/-- THE SECOND FORM's CARD OF 'duffellaw17.DynPlain'. -/
def dynPlainUptoCard : Claim7 := { stood := { row := dynPlainUptoRow, standIns := [], harness := (true, "a4fdfad984deccbaa1c710823e47722e71a2bb66cf83571d80d38eb56908c568"), looks := false }, kinds := [], alts := [], laidByText := true, laidKinds := [.data], laidTests := true, laidLooks := .later }
def DynPlainUptoCardSaid : Prop := Claim7.holds Tryd.pinned (.plain (OpenSpec.upto dynPlainSpec)) dynPlainUptoCard

/-- THE SECOND FORM's CARD OF 'duffellaw17.DynRights'. -/
def dynRightsUptoCard : Claim7 := { stood := { row := dynRightsUptoRow, standIns := [], harness := (true, "a4fdfad984deccbaa1c710823e47722e71a2bb66cf83571d80d38eb56908c568"), looks := false }, kinds := [], alts := [], laidByText := true, laidKinds := [.data], laidTests := true, laidLooks := .later }
def DynRightsUptoCardSaid : Prop := Claim7.holds Tryd.pinned (.plain (OpenSpec.upto dynRightsSpec)) dynRightsUptoCard
end Rows
end Go.Proofs.YtpakjokbnjbkjaaDoor
