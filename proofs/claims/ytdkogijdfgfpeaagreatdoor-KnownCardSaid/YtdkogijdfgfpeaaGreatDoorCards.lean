/-
  DERIVED. GIVEN WITH THE SEED: THE CARDS: each row of YtdkogijdfgfpeaaGreatDoorRows.lean that lists a variable, with what it lists TIED to the program's text (the seventh form; the later family's looks); each row that meets fmt, with fmt's text TOLD by the authors' own Lean function (tested against real Go, not proved from fmt's source: count such statements apart). THE CARD IS WHAT COUNTS. Prove the row's statement (the work); the ties are given (YtdkogijdfgfpeaaGreatDoorTie.lean); close each card by the builder's one call (the guide's Derived/Test/ToyasCard.lean, 'card_holds'). Laid BY PROGRAM, IN A SANDBOX (cutbox-door.mjs). By AI agents, Wed Nov 11 2026. No macro, syntax, notation, axiom, sorry.
-/
import Derived.Test.YtdkogijdfgfpeaaGreatDoorRows
import GoSem.ClaimSeven
namespace Go.Proofs.YtdkogijdfgfpeaaGreatDoor
namespace Rows

/-- THE TIED CARD OF 'narlaw.Inserts'. -/
def insertsCard : Claim7 := { stood := { row := insertsRow, standIns := [], harness := (true, "7819e061a638e004091305d5eba3e55e9dcdf03e076a39de0f2fd5d90ed30e11"), looks := true }, kinds := [], alts := [], laidByText := true, laidKinds := [.data, .pinned], laidTests := true, laidLooks := .later }
def InsertsCardSaid : Prop := Claim7.holds Tryz.pinned (.plain (OpenSpec.ofChange insertsSpec)) insertsCard

/-- THE TIED CARD OF 'narlaw.Gets'. -/
def getsCard : Claim7 := { stood := { row := getsRow, standIns := [], harness := (true, "7819e061a638e004091305d5eba3e55e9dcdf03e076a39de0f2fd5d90ed30e11"), looks := true }, kinds := [], alts := [], laidByText := true, laidKinds := [.data, .pinned], laidTests := true, laidLooks := .later }
def GetsCardSaid : Prop := Claim7.holds Tryz.pinned (.plain (OpenSpec.ofChange getsSpec)) getsCard

/-- THE TIED CARD OF 'narlaw.Paths'. -/
def pathsCard : Claim7 := { stood := { row := pathsRow, standIns := [], harness := (true, "7819e061a638e004091305d5eba3e55e9dcdf03e076a39de0f2fd5d90ed30e11"), looks := true }, kinds := [], alts := [], laidByText := true, laidKinds := [.data, .pinned], laidTests := true, laidLooks := .later }
def PathsCardSaid : Prop := Claim7.holds Tryz.pinned (.plain (OpenSpec.ofChange pathsSpec)) pathsCard

/-- THE TIED CARD OF 'narlaw.Closures'. -/
def closuresCard : Claim7 := { stood := { row := closuresRow, standIns := [], harness := (true, "7819e061a638e004091305d5eba3e55e9dcdf03e076a39de0f2fd5d90ed30e11"), looks := true }, kinds := [], alts := [], laidByText := true, laidKinds := [.data, .pinned], laidTests := true, laidLooks := .later }
def ClosuresCardSaid : Prop := Claim7.holds Tryz.pinned (.plain (OpenSpec.ofChange closuresSpec)) closuresCard

/-- THE TIED CARD OF 'narlaw.Exports'. -/
def exportsCard : Claim7 := { stood := { row := exportsRow, standIns := [], harness := (true, "7819e061a638e004091305d5eba3e55e9dcdf03e076a39de0f2fd5d90ed30e11"), looks := true }, kinds := [], alts := [], laidByText := true, laidKinds := [.data, .pinned], laidTests := true, laidLooks := .later }
def ExportsCardSaid : Prop := Claim7.holds Tryz.pinned (.plain (OpenSpec.ofChange exportsSpec)) exportsCard

/-- THE TIED CARD OF 'narlaw.Imports'. -/
def importsCard : Claim7 := { stood := { row := importsRow, standIns := [], harness := (true, "7819e061a638e004091305d5eba3e55e9dcdf03e076a39de0f2fd5d90ed30e11"), looks := true }, kinds := [], alts := [], laidByText := true, laidKinds := [.data, .pinned], laidTests := true, laidLooks := .later }
def ImportsCardSaid : Prop := Claim7.holds Tryz.pinned (.plain (OpenSpec.ofChange importsSpec)) importsCard

/-- THE TIED CARD OF 'narlaw.Owned'. -/
def ownedCard : Claim7 := { stood := { row := ownedRow, standIns := [], harness := (true, "7819e061a638e004091305d5eba3e55e9dcdf03e076a39de0f2fd5d90ed30e11"), looks := true }, kinds := [], alts := [], laidByText := true, laidKinds := [.data, .pinned], laidTests := true, laidLooks := .later }
def OwnedCardSaid : Prop := Claim7.holds Tryz.pinned (.plain (OpenSpec.ofChange ownedSpec)) ownedCard

/-- THE TIED CARD OF 'narlaw.All'. -/
def allCard : Claim7 := { stood := { row := allRow, standIns := [], harness := (true, "7819e061a638e004091305d5eba3e55e9dcdf03e076a39de0f2fd5d90ed30e11"), looks := true }, kinds := [], alts := [], laidByText := true, laidKinds := [.data, .pinned], laidTests := true, laidLooks := .later }
def AllCardSaid : Prop := Claim7.holds Tryz.pinned (.plain (OpenSpec.ofChange allSpec)) allCard

/-- THE TIED CARD OF 'narkeep.Moved'. -/
def movedCard : Claim7 := { stood := { row := movedRow, standIns := [], harness := (true, "7819e061a638e004091305d5eba3e55e9dcdf03e076a39de0f2fd5d90ed30e11"), looks := true }, kinds := [], alts := [], laidByText := true, laidKinds := [.data, .pinned], laidTests := true, laidLooks := .later }
def MovedCardSaid : Prop := Claim7.holds Tryz.pinned (.plain (OpenSpec.ofChange movedSpec)) movedCard

/-- THE TIED CARD OF 'narkeep.Spoilt'. -/
def spoiltCard : Claim7 := { stood := { row := spoiltRow, standIns := [], harness := (true, "7819e061a638e004091305d5eba3e55e9dcdf03e076a39de0f2fd5d90ed30e11"), looks := true }, kinds := [], alts := [], laidByText := true, laidKinds := [.data, .pinned], laidTests := true, laidLooks := .later }
def SpoiltCardSaid : Prop := Claim7.holds Tryz.pinned (.plain (OpenSpec.ofChange spoiltSpec)) spoiltCard

/-- THE TIED CARD OF 'narkeep.Known'. -/
def knownCard : Claim7 := { stood := { row := knownRow, standIns := [], harness := (true, "7819e061a638e004091305d5eba3e55e9dcdf03e076a39de0f2fd5d90ed30e11"), looks := true }, kinds := [], alts := [], laidByText := true, laidKinds := [.data, .pinned], laidTests := true, laidLooks := .later }
def KnownCardSaid : Prop := Claim7.holds Tryz.pinned (.plain (OpenSpec.ofChange knownSpec)) knownCard

/-- THE SECOND FORM's CARD OF 'narlaw.Inserts'. -/
def insertsUptoCard : Claim7 := { stood := { row := insertsUptoRow, standIns := [], harness := (true, "7819e061a638e004091305d5eba3e55e9dcdf03e076a39de0f2fd5d90ed30e11"), looks := true }, kinds := [], alts := [], laidByText := true, laidKinds := [.data, .pinned], laidTests := true, laidLooks := .later }
def InsertsUptoCardSaid : Prop := Claim7.holds Tryz.pinned (.plain (OpenSpec.upto insertsSpec)) insertsUptoCard

/-- THE SECOND FORM's CARD OF 'narlaw.Gets'. -/
def getsUptoCard : Claim7 := { stood := { row := getsUptoRow, standIns := [], harness := (true, "7819e061a638e004091305d5eba3e55e9dcdf03e076a39de0f2fd5d90ed30e11"), looks := true }, kinds := [], alts := [], laidByText := true, laidKinds := [.data, .pinned], laidTests := true, laidLooks := .later }
def GetsUptoCardSaid : Prop := Claim7.holds Tryz.pinned (.plain (OpenSpec.upto getsSpec)) getsUptoCard

/-- THE SECOND FORM's CARD OF 'narlaw.Paths'. -/
def pathsUptoCard : Claim7 := { stood := { row := pathsUptoRow, standIns := [], harness := (true, "7819e061a638e004091305d5eba3e55e9dcdf03e076a39de0f2fd5d90ed30e11"), looks := true }, kinds := [], alts := [], laidByText := true, laidKinds := [.data, .pinned], laidTests := true, laidLooks := .later }
def PathsUptoCardSaid : Prop := Claim7.holds Tryz.pinned (.plain (OpenSpec.upto pathsSpec)) pathsUptoCard

/-- THE SECOND FORM's CARD OF 'narlaw.Closures'. -/
def closuresUptoCard : Claim7 := { stood := { row := closuresUptoRow, standIns := [], harness := (true, "7819e061a638e004091305d5eba3e55e9dcdf03e076a39de0f2fd5d90ed30e11"), looks := true }, kinds := [], alts := [], laidByText := true, laidKinds := [.data, .pinned], laidTests := true, laidLooks := .later }
def ClosuresUptoCardSaid : Prop := Claim7.holds Tryz.pinned (.plain (OpenSpec.upto closuresSpec)) closuresUptoCard

/-- THE SECOND FORM's CARD OF 'narlaw.Exports'. -/
def exportsUptoCard : Claim7 := { stood := { row := exportsUptoRow, standIns := [], harness := (true, "7819e061a638e004091305d5eba3e55e9dcdf03e076a39de0f2fd5d90ed30e11"), looks := true }, kinds := [], alts := [], laidByText := true, laidKinds := [.data, .pinned], laidTests := true, laidLooks := .later }
def ExportsUptoCardSaid : Prop := Claim7.holds Tryz.pinned (.plain (OpenSpec.upto exportsSpec)) exportsUptoCard

/-- THE SECOND FORM's CARD OF 'narlaw.Imports'. -/
def importsUptoCard : Claim7 := { stood := { row := importsUptoRow, standIns := [], harness := (true, "7819e061a638e004091305d5eba3e55e9dcdf03e076a39de0f2fd5d90ed30e11"), looks := true }, kinds := [], alts := [], laidByText := true, laidKinds := [.data, .pinned], laidTests := true, laidLooks := .later }
def ImportsUptoCardSaid : Prop := Claim7.holds Tryz.pinned (.plain (OpenSpec.upto importsSpec)) importsUptoCard

/-- THE SECOND FORM's CARD OF 'narlaw.Owned'. -/
def ownedUptoCard : Claim7 := { stood := { row := ownedUptoRow, standIns := [], harness := (true, "7819e061a638e004091305d5eba3e55e9dcdf03e076a39de0f2fd5d90ed30e11"), looks := true }, kinds := [], alts := [], laidByText := true, laidKinds := [.data, .pinned], laidTests := true, laidLooks := .later }
def OwnedUptoCardSaid : Prop := Claim7.holds Tryz.pinned (.plain (OpenSpec.upto ownedSpec)) ownedUptoCard

/-- THE SECOND FORM's CARD OF 'narlaw.All'. -/
def allUptoCard : Claim7 := { stood := { row := allUptoRow, standIns := [], harness := (true, "7819e061a638e004091305d5eba3e55e9dcdf03e076a39de0f2fd5d90ed30e11"), looks := true }, kinds := [], alts := [], laidByText := true, laidKinds := [.data, .pinned], laidTests := true, laidLooks := .later }
def AllUptoCardSaid : Prop := Claim7.holds Tryz.pinned (.plain (OpenSpec.upto allSpec)) allUptoCard

/-- THE SECOND FORM's CARD OF 'narkeep.Moved'. -/
def movedUptoCard : Claim7 := { stood := { row := movedUptoRow, standIns := [], harness := (true, "7819e061a638e004091305d5eba3e55e9dcdf03e076a39de0f2fd5d90ed30e11"), looks := true }, kinds := [], alts := [], laidByText := true, laidKinds := [.data, .pinned], laidTests := true, laidLooks := .later }
def MovedUptoCardSaid : Prop := Claim7.holds Tryz.pinned (.plain (OpenSpec.upto movedSpec)) movedUptoCard

/-- THE SECOND FORM's CARD OF 'narkeep.Spoilt'. -/
def spoiltUptoCard : Claim7 := { stood := { row := spoiltUptoRow, standIns := [], harness := (true, "7819e061a638e004091305d5eba3e55e9dcdf03e076a39de0f2fd5d90ed30e11"), looks := true }, kinds := [], alts := [], laidByText := true, laidKinds := [.data, .pinned], laidTests := true, laidLooks := .later }
def SpoiltUptoCardSaid : Prop := Claim7.holds Tryz.pinned (.plain (OpenSpec.upto spoiltSpec)) spoiltUptoCard

/-- THE SECOND FORM's CARD OF 'narkeep.Known'. -/
def knownUptoCard : Claim7 := { stood := { row := knownUptoRow, standIns := [], harness := (true, "7819e061a638e004091305d5eba3e55e9dcdf03e076a39de0f2fd5d90ed30e11"), looks := true }, kinds := [], alts := [], laidByText := true, laidKinds := [.data, .pinned], laidTests := true, laidLooks := .later }
def KnownUptoCardSaid : Prop := Claim7.holds Tryz.pinned (.plain (OpenSpec.upto knownSpec)) knownUptoCard
end Rows
end Go.Proofs.YtdkogijdfgfpeaaGreatDoor
