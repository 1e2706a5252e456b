/-
  DERIVED. GIVEN WITH THE SEED: THE CARDS: each row of YtflkafnhhadphaaDoorRows.lean that lists a variable, with what it lists TIED to the program's text (the seventh form; the later family's looks); each row that meets fmt, with fmt's text TOLD by the authors' own Lean function (tested against real Go, not proved from fmt's source: count such statements apart). THE CARD IS WHAT COUNTS. Prove the row's statement (the work); the ties are given (YtflkafnhhadphaaDoorTie.lean); close each card by the builder's one call (the guide's Derived/Test/ToyasCard.lean, 'card_holds'). Laid BY PROGRAM, IN A SANDBOX (cutbox-door.mjs). By AI agents, Wed Nov 11 2026. No macro, syntax, notation, axiom, sorry.
-/
import Derived.Test.YtflkafnhhadphaaDoorRows
import GoSem.ClaimSeven
namespace Go.Proofs.YtflkafnhhadphaaDoor
namespace Rows

/-- THE TIED CARD OF 'narlaw.Packs'. -/
def packsCard : Claim7 := { stood := { row := packsRow, standIns := [], harness := (true, "87d7260b0f0113faf791eb23ce39a7169c27ed41fb3146315844a29c18432035"), looks := false }, kinds := [], alts := [], laidByText := true, laidKinds := [.data, .pinned], laidTests := true, laidLooks := .later }
def PacksCardSaid : Prop := Claim7.holds Tryd.pinned (.plain (OpenSpec.ofChange packsSpec)) packsCard

/-- THE TIED CARD OF 'narkeep.Broken'. -/
def brokenCard : Claim7 := { stood := { row := brokenRow, standIns := [], harness := (true, "87d7260b0f0113faf791eb23ce39a7169c27ed41fb3146315844a29c18432035"), looks := false }, kinds := [], alts := [], laidByText := true, laidKinds := [.data, .pinned], laidTests := true, laidLooks := .later }
def BrokenCardSaid : Prop := Claim7.holds Tryd.pinned (.plain (OpenSpec.ofChange brokenSpec)) brokenCard

/-- THE TIED CARD OF 'narlaw.Reads'. -/
def readsCard : Claim7 := { stood := { row := readsRow, standIns := [], harness := (true, "87d7260b0f0113faf791eb23ce39a7169c27ed41fb3146315844a29c18432035"), looks := false }, kinds := [], alts := [], laidByText := true, laidKinds := [.data, .pinned], laidTests := true, laidLooks := .later }
def ReadsCardSaid : Prop := Claim7.holds Tryd.pinned (.plain (OpenSpec.ofChange readsSpec)) readsCard

/-- THE TIED CARD OF 'narkeep.Round'. -/
def roundCard : Claim7 := { stood := { row := roundRow, standIns := [], harness := (true, "87d7260b0f0113faf791eb23ce39a7169c27ed41fb3146315844a29c18432035"), looks := false }, kinds := [], alts := [], laidByText := true, laidKinds := [.data, .pinned], laidTests := true, laidLooks := .later }
def RoundCardSaid : Prop := Claim7.holds Tryd.pinned (.plain (OpenSpec.ofChange roundSpec)) roundCard

/-- THE TIED CARD OF 'narkeep.One'. -/
def oneCard : Claim7 := { stood := { row := oneRow, standIns := [], harness := (true, "87d7260b0f0113faf791eb23ce39a7169c27ed41fb3146315844a29c18432035"), looks := false }, kinds := [], alts := [], laidByText := true, laidKinds := [.data, .pinned], laidTests := true, laidLooks := .later }
def OneCardSaid : Prop := Claim7.holds Tryd.pinned (.plain (OpenSpec.ofChange oneSpec)) oneCard

/-- THE SECOND FORM's CARD OF 'narlaw.Packs'. -/
def packsUptoCard : Claim7 := { stood := { row := packsUptoRow, standIns := [], harness := (true, "87d7260b0f0113faf791eb23ce39a7169c27ed41fb3146315844a29c18432035"), looks := false }, kinds := [], alts := [], laidByText := true, laidKinds := [.data, .pinned], laidTests := true, laidLooks := .later }
def PacksUptoCardSaid : Prop := Claim7.holds Tryd.pinned (.plain (OpenSpec.upto packsSpec)) packsUptoCard

/-- THE SECOND FORM's CARD OF 'narkeep.Broken'. -/
def brokenUptoCard : Claim7 := { stood := { row := brokenUptoRow, standIns := [], harness := (true, "87d7260b0f0113faf791eb23ce39a7169c27ed41fb3146315844a29c18432035"), looks := false }, kinds := [], alts := [], laidByText := true, laidKinds := [.data, .pinned], laidTests := true, laidLooks := .later }
def BrokenUptoCardSaid : Prop := Claim7.holds Tryd.pinned (.plain (OpenSpec.upto brokenSpec)) brokenUptoCard

/-- THE SECOND FORM's CARD OF 'narlaw.Reads'. -/
def readsUptoCard : Claim7 := { stood := { row := readsUptoRow, standIns := [], harness := (true, "87d7260b0f0113faf791eb23ce39a7169c27ed41fb3146315844a29c18432035"), looks := false }, kinds := [], alts := [], laidByText := true, laidKinds := [.data, .pinned], laidTests := true, laidLooks := .later }
def ReadsUptoCardSaid : Prop := Claim7.holds Tryd.pinned (.plain (OpenSpec.upto readsSpec)) readsUptoCard

/-- THE SECOND FORM's CARD OF 'narkeep.Round'. -/
def roundUptoCard : Claim7 := { stood := { row := roundUptoRow, standIns := [], harness := (true, "87d7260b0f0113faf791eb23ce39a7169c27ed41fb3146315844a29c18432035"), looks := false }, kinds := [], alts := [], laidByText := true, laidKinds := [.data, .pinned], laidTests := true, laidLooks := .later }
def RoundUptoCardSaid : Prop := Claim7.holds Tryd.pinned (.plain (OpenSpec.upto roundSpec)) roundUptoCard

/-- THE SECOND FORM's CARD OF 'narkeep.One'. -/
def oneUptoCard : Claim7 := { stood := { row := oneUptoRow, standIns := [], harness := (true, "87d7260b0f0113faf791eb23ce39a7169c27ed41fb3146315844a29c18432035"), looks := false }, kinds := [], alts := [], laidByText := true, laidKinds := [.data, .pinned], laidTests := true, laidLooks := .later }
def OneUptoCardSaid : Prop := Claim7.holds Tryd.pinned (.plain (OpenSpec.upto oneSpec)) oneUptoCard
end Rows
end Go.Proofs.YtflkafnhhadphaaDoor
