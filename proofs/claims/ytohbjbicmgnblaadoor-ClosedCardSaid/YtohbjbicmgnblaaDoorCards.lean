/-
  DERIVED. GIVEN WITH THE SEED: THE CARDS: each row of YtohbjbicmgnblaaDoorRows.lean that lists a variable, with what it lists TIED to the program's text (the seventh form; the later family's looks); each row that meets fmt, with fmt's text TOLD by the authors' own Lean function (tested against real Go, not proved from fmt's source: count such statements apart). THE CARD IS WHAT COUNTS. Prove the row's statement (the work); the ties are given (YtohbjbicmgnblaaDoorTie.lean); close each card by the builder's one call (the guide's Derived/Test/ToyasCard.lean, 'card_holds'). Laid BY PROGRAM, IN A SANDBOX (cutbox-door.mjs). By AI agents, Wed Nov 11 2026. No macro, syntax, notation, axiom, sorry.
-/
import Derived.Test.YtohbjbicmgnblaaDoorRows
import GoSem.ClaimSeven
namespace Go.Proofs.YtohbjbicmgnblaaDoor
namespace Rows

/-- THE TIED CARD OF 'narlaw.Packs'. -/
def packsCard : Claim7 := { stood := { row := packsRow, standIns := [], harness := (true, "5091557cac0358a22dbfefc5a126eacc7f3eb05004cd8877493b74d22d610853"), looks := true }, kinds := [], alts := [], laidByText := true, laidKinds := [.data, .pinned], laidTests := true, laidLooks := .later }
def PacksCardSaid : Prop := Claim7.holds Tryd.pinned (.plain (OpenSpec.ofChange packsSpec)) packsCard

/-- THE TIED CARD OF 'narkeep.Closed'. -/
def closedCard : Claim7 := { stood := { row := closedRow, standIns := [], harness := (true, "5091557cac0358a22dbfefc5a126eacc7f3eb05004cd8877493b74d22d610853"), looks := true }, kinds := [], alts := [], laidByText := true, laidKinds := [.data, .pinned], laidTests := true, laidLooks := .later }
def ClosedCardSaid : Prop := Claim7.holds Tryd.pinned (.plain (OpenSpec.ofChange closedSpec)) closedCard

/-- THE SECOND FORM's CARD OF 'narlaw.Packs'. -/
def packsUptoCard : Claim7 := { stood := { row := packsUptoRow, standIns := [], harness := (true, "5091557cac0358a22dbfefc5a126eacc7f3eb05004cd8877493b74d22d610853"), looks := true }, kinds := [], alts := [], laidByText := true, laidKinds := [.data, .pinned], laidTests := true, laidLooks := .later }
def PacksUptoCardSaid : Prop := Claim7.holds Tryd.pinned (.plain (OpenSpec.upto packsSpec)) packsUptoCard

/-- THE SECOND FORM's CARD OF 'narkeep.Closed'. -/
def closedUptoCard : Claim7 := { stood := { row := closedUptoRow, standIns := [], harness := (true, "5091557cac0358a22dbfefc5a126eacc7f3eb05004cd8877493b74d22d610853"), looks := true }, kinds := [], alts := [], laidByText := true, laidKinds := [.data, .pinned], laidTests := true, laidLooks := .later }
def ClosedUptoCardSaid : Prop := Claim7.holds Tryd.pinned (.plain (OpenSpec.upto closedSpec)) closedUptoCard
end Rows
end Go.Proofs.YtohbjbicmgnblaaDoor
