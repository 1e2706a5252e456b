/-
  NARROWER THAN 'FOR EVERY INPUT', by the rows' own cells (each row's printed sentence says how): Inserts: laid · Gets: laid · Paths: laid · Closures: laid · Exports: laid · Imports: laid · Owned: laid · All: laid · Moved: laid · Spoilt: laid · Known: laid.
  DERIVED. THE GIVEN ROWS OF THIS SEAT. 11 by the template 'for every input the law returns true; each argument reads behind the call as it read before'; 0 by the template 'total and deterministic' (their statements: YtdkogijdfgfpeaaGreatDoorTotals.lean).
  GIVEN WITH THE SEED: the statements are not yours to turn. If you find one false, say at which input.
  Laid BY PROGRAM, IN A SANDBOX (cutbox-rows.mjs): the forced cells as the released guide's own fill.sh prints them over the translation 376618b49cb7327e… (all of the seat's roots in one cut). By AI agents, Wed Nov 11 2026. No macro, syntax, notation, axiom, sorry.
-/
import Derived.Test.YtdkogijdfgfpeaaGreatDoorChecked
import GoSem.PinnedTables
import GoSem.Claim
import GoSem.ClaimJoined
import GoSem.ClaimMapViews
import Derived.JoinedTies
import Derived.KernelRfl
namespace Go.Proofs.YtdkogijdfgfpeaaGreatDoor
/- THE CELL 'sum', in the pinned program and in every row, IS THE sha256 OF THE DUMP (.gsa) THAT YtdkogijdfgfpeaaGreatDoorProg.lean LOADS. Nothing in Lean hashes anything: it is a label: what it is worth is what the hold of that sum in a sandbox is worth. -/
noncomputable def Tryz.pinned : Pinned := { name := "ytdkogijdfgfpeaagreatdoor", sum := "376618b49cb7327e73e0a8d0db079fca05c7552eee840141f90f366709daa8a7", checked := Tryz.checked }
namespace Rows
def none {H : Type} : Left H := { results := [], args := [] }

/- WHAT THE LISTED PACKAGE-LEVEL VARIABLES READ AS WHEN THE CALL BEGINS. Each datum BY PROGRAM (the guide's laid-datum.mjs) off the statement by which the dump's own 'gosem.cut.vars' lays the variable. In a bare row this is a premise. The card (YtdkogijdfgfpeaaGreatDoorCards.lean) ties it to the program's text. -/
def laid_unicode_utf8_acceptRanges {H : Type} : DataW H := .agg [.agg [.lit (.int .u8 128), .lit (.int .u8 191)], .agg [.lit (.int .u8 160), .lit (.int .u8 191)], .agg [.lit (.int .u8 128), .lit (.int .u8 159)], .agg [.lit (.int .u8 144), .lit (.int .u8 191)], .agg [.lit (.int .u8 128), .lit (.int .u8 143)], .agg [.lit (.int .u8 0), .lit (.int .u8 0)], .agg [.lit (.int .u8 0), .lit (.int .u8 0)], .agg [.lit (.int .u8 0), .lit (.int .u8 0)], .agg [.lit (.int .u8 0), .lit (.int .u8 0)], .agg [.lit (.int .u8 0), .lit (.int .u8 0)], .agg [.lit (.int .u8 0), .lit (.int .u8 0)], .agg [.lit (.int .u8 0), .lit (.int .u8 0)], .agg [.lit (.int .u8 0), .lit (.int .u8 0)], .agg [.lit (.int .u8 0), .lit (.int .u8 0)], .agg [.lit (.int .u8 0), .lit (.int .u8 0)], .agg [.lit (.int .u8 0), .lit (.int .u8 0)]]
/-- One of Go's own tables, pinned by name: the form's constant. -/
def laid_unicode_utf8_first : DataW Unit := Go.Pinned.utf8First

/-- 'narlaw.Inserts': WHATEVER THE INPUT: true; the input reads as it did. -/
def insertsSpec : ChangeSpec := { name := "inserts", fn := fun _ => fun
  | [d] => { results := [.lit (.bool true)], args := [d] }
  | _ => none }
def insertsRow : OpenClaim := { program := "ytdkogijdfgfpeaagreatdoor", sum := "376618b49cb7327e73e0a8d0db079fca05c7552eee840141f90f366709daa8a7", func := "nar/narlaw.Inserts", spec := "inserts", inPlace := ["internal/bytealg.IndexByteString", "internal/bytealg.IndexString", "internal/abi.NoEscape"], unfollowed := true, recurses := true, named := ["unicode/utf8.first", "unicode/utf8.acceptRanges", "internal/bytealg.MaxLen"], apart := false, laid := [("unicode/utf8.acceptRanges", laid_unicode_utf8_acceptRanges), ("unicode/utf8.first", laid_unicode_utf8_first)] }
def InsertsSaid : Prop := insertsRow.holds Tryz.pinned (OpenSpec.ofChange insertsSpec)

/-- ITS FALSE NEIGHBOUR: 'it returns false'. Refute it at one input. -/
def insertsWrong : ChangeSpec := { name := "inserts", fn := fun _ => fun
  | [d] => { results := [.lit (.bool false)], args := [d] }
  | _ => none }
def InsertsWrongFalsely : Prop := insertsRow.holds Tryz.pinned (OpenSpec.ofChange insertsWrong)

/-- 'narlaw.Gets': WHATEVER THE INPUT: true; the input reads as it did. -/
def getsSpec : ChangeSpec := { name := "gets", fn := fun _ => fun
  | [d] => { results := [.lit (.bool true)], args := [d] }
  | _ => none }
def getsRow : OpenClaim := { program := "ytdkogijdfgfpeaagreatdoor", sum := "376618b49cb7327e73e0a8d0db079fca05c7552eee840141f90f366709daa8a7", func := "nar/narlaw.Gets", spec := "gets", inPlace := ["internal/bytealg.IndexByteString", "internal/bytealg.IndexString", "internal/abi.NoEscape"], unfollowed := true, recurses := true, named := ["unicode/utf8.first", "unicode/utf8.acceptRanges", "internal/bytealg.MaxLen"], apart := false, laid := [("unicode/utf8.acceptRanges", laid_unicode_utf8_acceptRanges), ("unicode/utf8.first", laid_unicode_utf8_first)] }
def GetsSaid : Prop := getsRow.holds Tryz.pinned (OpenSpec.ofChange getsSpec)

/-- ITS FALSE NEIGHBOUR: 'it returns false'. Refute it at one input. -/
def getsWrong : ChangeSpec := { name := "gets", fn := fun _ => fun
  | [d] => { results := [.lit (.bool false)], args := [d] }
  | _ => none }
def GetsWrongFalsely : Prop := getsRow.holds Tryz.pinned (OpenSpec.ofChange getsWrong)

/-- 'narlaw.Paths': WHATEVER THE INPUT: true; the input reads as it did. -/
def pathsSpec : ChangeSpec := { name := "paths", fn := fun _ => fun
  | [d] => { results := [.lit (.bool true)], args := [d] }
  | _ => none }
def pathsRow : OpenClaim := { program := "ytdkogijdfgfpeaagreatdoor", sum := "376618b49cb7327e73e0a8d0db079fca05c7552eee840141f90f366709daa8a7", func := "nar/narlaw.Paths", spec := "paths", inPlace := ["internal/bytealg.IndexByteString", "internal/bytealg.IndexString", "internal/abi.NoEscape"], unfollowed := true, recurses := true, named := ["unicode/utf8.first", "unicode/utf8.acceptRanges", "internal/bytealg.MaxLen"], apart := false, laid := [("unicode/utf8.acceptRanges", laid_unicode_utf8_acceptRanges), ("unicode/utf8.first", laid_unicode_utf8_first)] }
def PathsSaid : Prop := pathsRow.holds Tryz.pinned (OpenSpec.ofChange pathsSpec)

/-- ITS FALSE NEIGHBOUR: 'it returns false'. Refute it at one input. -/
def pathsWrong : ChangeSpec := { name := "paths", fn := fun _ => fun
  | [d] => { results := [.lit (.bool false)], args := [d] }
  | _ => none }
def PathsWrongFalsely : Prop := pathsRow.holds Tryz.pinned (OpenSpec.ofChange pathsWrong)

/-- 'narlaw.Closures': WHATEVER THE INPUT: true; the input reads as it did. -/
def closuresSpec : ChangeSpec := { name := "closures", fn := fun _ => fun
  | [d] => { results := [.lit (.bool true)], args := [d] }
  | _ => none }
def closuresRow : OpenClaim := { program := "ytdkogijdfgfpeaagreatdoor", sum := "376618b49cb7327e73e0a8d0db079fca05c7552eee840141f90f366709daa8a7", func := "nar/narlaw.Closures", spec := "closures", inPlace := ["internal/bytealg.IndexByteString", "internal/bytealg.IndexString", "internal/abi.NoEscape"], unfollowed := true, recurses := true, named := ["unicode/utf8.first", "unicode/utf8.acceptRanges", "internal/bytealg.MaxLen"], apart := false, laid := [("unicode/utf8.acceptRanges", laid_unicode_utf8_acceptRanges), ("unicode/utf8.first", laid_unicode_utf8_first)] }
def ClosuresSaid : Prop := closuresRow.holds Tryz.pinned (OpenSpec.ofChange closuresSpec)

/-- ITS FALSE NEIGHBOUR: 'it returns false'. Refute it at one input. -/
def closuresWrong : ChangeSpec := { name := "closures", fn := fun _ => fun
  | [d] => { results := [.lit (.bool false)], args := [d] }
  | _ => none }
def ClosuresWrongFalsely : Prop := closuresRow.holds Tryz.pinned (OpenSpec.ofChange closuresWrong)

/-- 'narlaw.Exports': WHATEVER THE INPUT: true; the input reads as it did. -/
def exportsSpec : ChangeSpec := { name := "exports", fn := fun _ => fun
  | [d] => { results := [.lit (.bool true)], args := [d] }
  | _ => none }
def exportsRow : OpenClaim := { program := "ytdkogijdfgfpeaagreatdoor", sum := "376618b49cb7327e73e0a8d0db079fca05c7552eee840141f90f366709daa8a7", func := "nar/narlaw.Exports", spec := "exports", inPlace := ["internal/bytealg.IndexByteString", "internal/bytealg.IndexString", "internal/abi.NoEscape"], unfollowed := true, recurses := true, named := ["unicode/utf8.first", "unicode/utf8.acceptRanges", "internal/bytealg.MaxLen"], apart := false, laid := [("unicode/utf8.acceptRanges", laid_unicode_utf8_acceptRanges), ("unicode/utf8.first", laid_unicode_utf8_first)] }
def ExportsSaid : Prop := exportsRow.holds Tryz.pinned (OpenSpec.ofChange exportsSpec)

/-- ITS FALSE NEIGHBOUR: 'it returns false'. Refute it at one input. -/
def exportsWrong : ChangeSpec := { name := "exports", fn := fun _ => fun
  | [d] => { results := [.lit (.bool false)], args := [d] }
  | _ => none }
def ExportsWrongFalsely : Prop := exportsRow.holds Tryz.pinned (OpenSpec.ofChange exportsWrong)

/-- 'narlaw.Imports': WHATEVER THE INPUT: true; the input reads as it did. -/
def importsSpec : ChangeSpec := { name := "imports", fn := fun _ => fun
  | [d] => { results := [.lit (.bool true)], args := [d] }
  | _ => none }
def importsRow : OpenClaim := { program := "ytdkogijdfgfpeaagreatdoor", sum := "376618b49cb7327e73e0a8d0db079fca05c7552eee840141f90f366709daa8a7", func := "nar/narlaw.Imports", spec := "imports", inPlace := ["internal/bytealg.IndexByteString", "internal/bytealg.IndexString", "internal/abi.NoEscape"], unfollowed := true, recurses := true, named := ["unicode/utf8.first", "unicode/utf8.acceptRanges", "internal/bytealg.MaxLen"], apart := false, laid := [("unicode/utf8.acceptRanges", laid_unicode_utf8_acceptRanges), ("unicode/utf8.first", laid_unicode_utf8_first)] }
def ImportsSaid : Prop := importsRow.holds Tryz.pinned (OpenSpec.ofChange importsSpec)

/-- ITS FALSE NEIGHBOUR: 'it returns false'. Refute it at one input. -/
def importsWrong : ChangeSpec := { name := "imports", fn := fun _ => fun
  | [d] => { results := [.lit (.bool false)], args := [d] }
  | _ => none }
def ImportsWrongFalsely : Prop := importsRow.holds Tryz.pinned (OpenSpec.ofChange importsWrong)

/-- 'narlaw.Owned': WHATEVER THE INPUT: true; the input reads as it did. -/
def ownedSpec : ChangeSpec := { name := "owned", fn := fun _ => fun
  | [d] => { results := [.lit (.bool true)], args := [d] }
  | _ => none }
def ownedRow : OpenClaim := { program := "ytdkogijdfgfpeaagreatdoor", sum := "376618b49cb7327e73e0a8d0db079fca05c7552eee840141f90f366709daa8a7", func := "nar/narlaw.Owned", spec := "owned", inPlace := ["internal/bytealg.IndexByteString", "internal/bytealg.IndexString", "internal/abi.NoEscape"], unfollowed := true, recurses := true, named := ["unicode/utf8.first", "unicode/utf8.acceptRanges", "internal/bytealg.MaxLen"], apart := false, laid := [("unicode/utf8.acceptRanges", laid_unicode_utf8_acceptRanges), ("unicode/utf8.first", laid_unicode_utf8_first)] }
def OwnedSaid : Prop := ownedRow.holds Tryz.pinned (OpenSpec.ofChange ownedSpec)

/-- ITS FALSE NEIGHBOUR: 'it returns false'. Refute it at one input. -/
def ownedWrong : ChangeSpec := { name := "owned", fn := fun _ => fun
  | [d] => { results := [.lit (.bool false)], args := [d] }
  | _ => none }
def OwnedWrongFalsely : Prop := ownedRow.holds Tryz.pinned (OpenSpec.ofChange ownedWrong)

/-- 'narlaw.All': WHATEVER THE INPUT: true; the input reads as it did. -/
def allSpec : ChangeSpec := { name := "all", fn := fun _ => fun
  | [d] => { results := [.lit (.bool true)], args := [d] }
  | _ => none }
def allRow : OpenClaim := { program := "ytdkogijdfgfpeaagreatdoor", sum := "376618b49cb7327e73e0a8d0db079fca05c7552eee840141f90f366709daa8a7", func := "nar/narlaw.All", spec := "all", inPlace := ["internal/bytealg.IndexByteString", "internal/bytealg.IndexString", "internal/abi.NoEscape"], unfollowed := true, recurses := true, named := ["unicode/utf8.first", "unicode/utf8.acceptRanges", "internal/bytealg.MaxLen"], apart := false, laid := [("unicode/utf8.acceptRanges", laid_unicode_utf8_acceptRanges), ("unicode/utf8.first", laid_unicode_utf8_first)] }
def AllSaid : Prop := allRow.holds Tryz.pinned (OpenSpec.ofChange allSpec)

/-- ITS FALSE NEIGHBOUR: 'it returns false'. Refute it at one input. -/
def allWrong : ChangeSpec := { name := "all", fn := fun _ => fun
  | [d] => { results := [.lit (.bool false)], args := [d] }
  | _ => none }
def AllWrongFalsely : Prop := allRow.holds Tryz.pinned (OpenSpec.ofChange allWrong)

/-- 'narkeep.Moved': WHATEVER THE INPUT: true; the input reads as it did. -/
def movedSpec : ChangeSpec := { name := "moved", fn := fun _ => fun
  | [d1, d2, d3] => { results := [.lit (.bool true)], args := [d1, d2, d3] }
  | _ => none }
def movedRow : OpenClaim := { program := "ytdkogijdfgfpeaagreatdoor", sum := "376618b49cb7327e73e0a8d0db079fca05c7552eee840141f90f366709daa8a7", func := "nar/narkeep.Moved", spec := "moved", inPlace := ["internal/bytealg.IndexByteString", "internal/bytealg.IndexString", "internal/abi.NoEscape"], unfollowed := true, recurses := true, named := ["unicode/utf8.first", "unicode/utf8.acceptRanges", "internal/bytealg.MaxLen"], apart := false, laid := [("unicode/utf8.acceptRanges", laid_unicode_utf8_acceptRanges), ("unicode/utf8.first", laid_unicode_utf8_first)] }
def MovedSaid : Prop := movedRow.holds Tryz.pinned (OpenSpec.ofChange movedSpec)

/-- ITS FALSE NEIGHBOUR: 'it returns false'. Refute it at one input. -/
def movedWrong : ChangeSpec := { name := "moved", fn := fun _ => fun
  | [d1, d2, d3] => { results := [.lit (.bool false)], args := [d1, d2, d3] }
  | _ => none }
def MovedWrongFalsely : Prop := movedRow.holds Tryz.pinned (OpenSpec.ofChange movedWrong)

/-- 'narkeep.Spoilt': WHATEVER THE INPUT: true; the input reads as it did. -/
def spoiltSpec : ChangeSpec := { name := "spoilt", fn := fun _ => fun
  | [d1, d2, d3] => { results := [.lit (.bool true)], args := [d1, d2, d3] }
  | _ => none }
def spoiltRow : OpenClaim := { program := "ytdkogijdfgfpeaagreatdoor", sum := "376618b49cb7327e73e0a8d0db079fca05c7552eee840141f90f366709daa8a7", func := "nar/narkeep.Spoilt", spec := "spoilt", inPlace := ["internal/bytealg.IndexByteString", "internal/bytealg.IndexString", "internal/abi.NoEscape"], unfollowed := true, recurses := true, named := ["unicode/utf8.first", "unicode/utf8.acceptRanges", "internal/bytealg.MaxLen"], apart := false, laid := [("unicode/utf8.acceptRanges", laid_unicode_utf8_acceptRanges), ("unicode/utf8.first", laid_unicode_utf8_first)] }
def SpoiltSaid : Prop := spoiltRow.holds Tryz.pinned (OpenSpec.ofChange spoiltSpec)

/-- ITS FALSE NEIGHBOUR: 'it returns false'. Refute it at one input. -/
def spoiltWrong : ChangeSpec := { name := "spoilt", fn := fun _ => fun
  | [d1, d2, d3] => { results := [.lit (.bool false)], args := [d1, d2, d3] }
  | _ => none }
def SpoiltWrongFalsely : Prop := spoiltRow.holds Tryz.pinned (OpenSpec.ofChange spoiltWrong)

/-- 'narkeep.Known': WHATEVER THE INPUT: true; the input reads as it did. -/
def knownSpec : ChangeSpec := { name := "known", fn := fun _ => fun
  | [] => { results := [.lit (.bool true)], args := [] }
  | _ => none }
def knownRow : OpenClaim := { program := "ytdkogijdfgfpeaagreatdoor", sum := "376618b49cb7327e73e0a8d0db079fca05c7552eee840141f90f366709daa8a7", func := "nar/narkeep.Known", spec := "known", inPlace := ["internal/bytealg.IndexByteString", "internal/abi.NoEscape", "internal/bytealg.IndexString"], unfollowed := true, recurses := true, named := ["unicode/utf8.first", "unicode/utf8.acceptRanges", "internal/bytealg.MaxLen"], apart := false, laid := [("unicode/utf8.acceptRanges", laid_unicode_utf8_acceptRanges), ("unicode/utf8.first", laid_unicode_utf8_first)] }
def KnownSaid : Prop := knownRow.holds Tryz.pinned (OpenSpec.ofChange knownSpec)

/-- ITS FALSE NEIGHBOUR: 'it returns false'. Refute it at one input. -/
def knownWrong : ChangeSpec := { name := "known", fn := fun _ => fun
  | [] => { results := [.lit (.bool false)], args := [] }
  | _ => none }
def KnownWrongFalsely : Prop := knownRow.holds Tryz.pinned (OpenSpec.ofChange knownWrong)

/- THE SECOND FORM. 'bulk': how many values and letters a reading holds, each counted each time it is reached (what is shared counts as often as it is met; a slice's spare places count too). A statement '..UptoSaid' is the law's where the arguments, and the package variables that the reading takes, are together of bulk at most 1048576: NARROWER than '..Said'. Prove '..Said' where nothing that the law and all that it calls make is longer than what came in: it says more and counts as full. Else prove '..UptoSaid'. A law counts once. -/
mutual
def uptoBulk {H : Type} : DataW H → Nat
  | .lit (.string bytes) => bytes.length + 1
  | .lit _ => 1
  | .nil => 1
  | .ptr d => uptoBulk d + 1
  | .slice elems spare => uptoBulkAll elems + uptoBulkAll spare + 1
  | .agg parts => uptoBulkAll parts + 1
  | .iface _ d => uptoBulk d + 1
  | .map entries => uptoBulkEntries entries + 1
  | .held _ => 1
def uptoBulkAll {H : Type} : List (DataW H) → Nat
  | [] => 0
  | d :: r => uptoBulk d + uptoBulkAll r
def uptoBulkEntries {H : Type} : List (Lit × DataW H) → Nat
  | [] => 0
  | x :: r => uptoBulkEntry x + uptoBulkEntries r
def uptoBulkEntry {H : Type} : Lit × DataW H → Nat
  | (.string bytes, d) => bytes.length + uptoBulk d + 1
  | (_, d) => uptoBulk d + 1
 end
def uptoSmall : (H : Type) → List (DataW H) → Bool := fun _ ds => decide (uptoBulkAll ds ≤ 1048576)
def OpenSpec.upto (s : _root_.Go.ChangeSpec) : _root_.Go.OpenSpec := { _root_.Go.OpenSpec.ofChange s with cond := some uptoSmall }

/-- 'narlaw.Inserts', WHERE WHAT IT READS IS OF BULK AT MOST 1048576: true; the input reads as it did. -/
def insertsUptoRow : OpenClaim := { program := "ytdkogijdfgfpeaagreatdoor", sum := "376618b49cb7327e73e0a8d0db079fca05c7552eee840141f90f366709daa8a7", func := "nar/narlaw.Inserts", spec := "inserts", inPlace := ["internal/bytealg.IndexByteString", "internal/bytealg.IndexString", "internal/abi.NoEscape"], unfollowed := true, recurses := true, named := ["unicode/utf8.first", "unicode/utf8.acceptRanges", "internal/bytealg.MaxLen"], apart := false, laid := [("unicode/utf8.acceptRanges", laid_unicode_utf8_acceptRanges), ("unicode/utf8.first", laid_unicode_utf8_first)], narrowed := true }
def InsertsUptoSaid : Prop := insertsUptoRow.holds Tryz.pinned (OpenSpec.upto insertsSpec)

/-- 'narlaw.Gets', WHERE WHAT IT READS IS OF BULK AT MOST 1048576: true; the input reads as it did. -/
def getsUptoRow : OpenClaim := { program := "ytdkogijdfgfpeaagreatdoor", sum := "376618b49cb7327e73e0a8d0db079fca05c7552eee840141f90f366709daa8a7", func := "nar/narlaw.Gets", spec := "gets", inPlace := ["internal/bytealg.IndexByteString", "internal/bytealg.IndexString", "internal/abi.NoEscape"], unfollowed := true, recurses := true, named := ["unicode/utf8.first", "unicode/utf8.acceptRanges", "internal/bytealg.MaxLen"], apart := false, laid := [("unicode/utf8.acceptRanges", laid_unicode_utf8_acceptRanges), ("unicode/utf8.first", laid_unicode_utf8_first)], narrowed := true }
def GetsUptoSaid : Prop := getsUptoRow.holds Tryz.pinned (OpenSpec.upto getsSpec)

/-- 'narlaw.Paths', WHERE WHAT IT READS IS OF BULK AT MOST 1048576: true; the input reads as it did. -/
def pathsUptoRow : OpenClaim := { program := "ytdkogijdfgfpeaagreatdoor", sum := "376618b49cb7327e73e0a8d0db079fca05c7552eee840141f90f366709daa8a7", func := "nar/narlaw.Paths", spec := "paths", inPlace := ["internal/bytealg.IndexByteString", "internal/bytealg.IndexString", "internal/abi.NoEscape"], unfollowed := true, recurses := true, named := ["unicode/utf8.first", "unicode/utf8.acceptRanges", "internal/bytealg.MaxLen"], apart := false, laid := [("unicode/utf8.acceptRanges", laid_unicode_utf8_acceptRanges), ("unicode/utf8.first", laid_unicode_utf8_first)], narrowed := true }
def PathsUptoSaid : Prop := pathsUptoRow.holds Tryz.pinned (OpenSpec.upto pathsSpec)

/-- 'narlaw.Closures', WHERE WHAT IT READS IS OF BULK AT MOST 1048576: true; the input reads as it did. -/
def closuresUptoRow : OpenClaim := { program := "ytdkogijdfgfpeaagreatdoor", sum := "376618b49cb7327e73e0a8d0db079fca05c7552eee840141f90f366709daa8a7", func := "nar/narlaw.Closures", spec := "closures", inPlace := ["internal/bytealg.IndexByteString", "internal/bytealg.IndexString", "internal/abi.NoEscape"], unfollowed := true, recurses := true, named := ["unicode/utf8.first", "unicode/utf8.acceptRanges", "internal/bytealg.MaxLen"], apart := false, laid := [("unicode/utf8.acceptRanges", laid_unicode_utf8_acceptRanges), ("unicode/utf8.first", laid_unicode_utf8_first)], narrowed := true }
def ClosuresUptoSaid : Prop := closuresUptoRow.holds Tryz.pinned (OpenSpec.upto closuresSpec)

/-- 'narlaw.Exports', WHERE WHAT IT READS IS OF BULK AT MOST 1048576: true; the input reads as it did. -/
def exportsUptoRow : OpenClaim := { program := "ytdkogijdfgfpeaagreatdoor", sum := "376618b49cb7327e73e0a8d0db079fca05c7552eee840141f90f366709daa8a7", func := "nar/narlaw.Exports", spec := "exports", inPlace := ["internal/bytealg.IndexByteString", "internal/bytealg.IndexString", "internal/abi.NoEscape"], unfollowed := true, recurses := true, named := ["unicode/utf8.first", "unicode/utf8.acceptRanges", "internal/bytealg.MaxLen"], apart := false, laid := [("unicode/utf8.acceptRanges", laid_unicode_utf8_acceptRanges), ("unicode/utf8.first", laid_unicode_utf8_first)], narrowed := true }
def ExportsUptoSaid : Prop := exportsUptoRow.holds Tryz.pinned (OpenSpec.upto exportsSpec)

/-- 'narlaw.Imports', WHERE WHAT IT READS IS OF BULK AT MOST 1048576: true; the input reads as it did. -/
def importsUptoRow : OpenClaim := { program := "ytdkogijdfgfpeaagreatdoor", sum := "376618b49cb7327e73e0a8d0db079fca05c7552eee840141f90f366709daa8a7", func := "nar/narlaw.Imports", spec := "imports", inPlace := ["internal/bytealg.IndexByteString", "internal/bytealg.IndexString", "internal/abi.NoEscape"], unfollowed := true, recurses := true, named := ["unicode/utf8.first", "unicode/utf8.acceptRanges", "internal/bytealg.MaxLen"], apart := false, laid := [("unicode/utf8.acceptRanges", laid_unicode_utf8_acceptRanges), ("unicode/utf8.first", laid_unicode_utf8_first)], narrowed := true }
def ImportsUptoSaid : Prop := importsUptoRow.holds Tryz.pinned (OpenSpec.upto importsSpec)

/-- 'narlaw.Owned', WHERE WHAT IT READS IS OF BULK AT MOST 1048576: true; the input reads as it did. -/
def ownedUptoRow : OpenClaim := { program := "ytdkogijdfgfpeaagreatdoor", sum := "376618b49cb7327e73e0a8d0db079fca05c7552eee840141f90f366709daa8a7", func := "nar/narlaw.Owned", spec := "owned", inPlace := ["internal/bytealg.IndexByteString", "internal/bytealg.IndexString", "internal/abi.NoEscape"], unfollowed := true, recurses := true, named := ["unicode/utf8.first", "unicode/utf8.acceptRanges", "internal/bytealg.MaxLen"], apart := false, laid := [("unicode/utf8.acceptRanges", laid_unicode_utf8_acceptRanges), ("unicode/utf8.first", laid_unicode_utf8_first)], narrowed := true }
def OwnedUptoSaid : Prop := ownedUptoRow.holds Tryz.pinned (OpenSpec.upto ownedSpec)

/-- 'narlaw.All', WHERE WHAT IT READS IS OF BULK AT MOST 1048576: true; the input reads as it did. -/
def allUptoRow : OpenClaim := { program := "ytdkogijdfgfpeaagreatdoor", sum := "376618b49cb7327e73e0a8d0db079fca05c7552eee840141f90f366709daa8a7", func := "nar/narlaw.All", spec := "all", inPlace := ["internal/bytealg.IndexByteString", "internal/bytealg.IndexString", "internal/abi.NoEscape"], unfollowed := true, recurses := true, named := ["unicode/utf8.first", "unicode/utf8.acceptRanges", "internal/bytealg.MaxLen"], apart := false, laid := [("unicode/utf8.acceptRanges", laid_unicode_utf8_acceptRanges), ("unicode/utf8.first", laid_unicode_utf8_first)], narrowed := true }
def AllUptoSaid : Prop := allUptoRow.holds Tryz.pinned (OpenSpec.upto allSpec)

/-- 'narkeep.Moved', WHERE WHAT IT READS IS OF BULK AT MOST 1048576: true; the input reads as it did. -/
def movedUptoRow : OpenClaim := { program := "ytdkogijdfgfpeaagreatdoor", sum := "376618b49cb7327e73e0a8d0db079fca05c7552eee840141f90f366709daa8a7", func := "nar/narkeep.Moved", spec := "moved", inPlace := ["internal/bytealg.IndexByteString", "internal/bytealg.IndexString", "internal/abi.NoEscape"], unfollowed := true, recurses := true, named := ["unicode/utf8.first", "unicode/utf8.acceptRanges", "internal/bytealg.MaxLen"], apart := false, laid := [("unicode/utf8.acceptRanges", laid_unicode_utf8_acceptRanges), ("unicode/utf8.first", laid_unicode_utf8_first)], narrowed := true }
def MovedUptoSaid : Prop := movedUptoRow.holds Tryz.pinned (OpenSpec.upto movedSpec)

/-- 'narkeep.Spoilt', WHERE WHAT IT READS IS OF BULK AT MOST 1048576: true; the input reads as it did. -/
def spoiltUptoRow : OpenClaim := { program := "ytdkogijdfgfpeaagreatdoor", sum := "376618b49cb7327e73e0a8d0db079fca05c7552eee840141f90f366709daa8a7", func := "nar/narkeep.Spoilt", spec := "spoilt", inPlace := ["internal/bytealg.IndexByteString", "internal/bytealg.IndexString", "internal/abi.NoEscape"], unfollowed := true, recurses := true, named := ["unicode/utf8.first", "unicode/utf8.acceptRanges", "internal/bytealg.MaxLen"], apart := false, laid := [("unicode/utf8.acceptRanges", laid_unicode_utf8_acceptRanges), ("unicode/utf8.first", laid_unicode_utf8_first)], narrowed := true }
def SpoiltUptoSaid : Prop := spoiltUptoRow.holds Tryz.pinned (OpenSpec.upto spoiltSpec)

/-- 'narkeep.Known', WHERE WHAT IT READS IS OF BULK AT MOST 1048576: true; the input reads as it did. -/
def knownUptoRow : OpenClaim := { program := "ytdkogijdfgfpeaagreatdoor", sum := "376618b49cb7327e73e0a8d0db079fca05c7552eee840141f90f366709daa8a7", func := "nar/narkeep.Known", spec := "known", inPlace := ["internal/bytealg.IndexByteString", "internal/abi.NoEscape", "internal/bytealg.IndexString"], unfollowed := true, recurses := true, named := ["unicode/utf8.first", "unicode/utf8.acceptRanges", "internal/bytealg.MaxLen"], apart := false, laid := [("unicode/utf8.acceptRanges", laid_unicode_utf8_acceptRanges), ("unicode/utf8.first", laid_unicode_utf8_first)], narrowed := true }
def KnownUptoSaid : Prop := knownUptoRow.holds Tryz.pinned (OpenSpec.upto knownSpec)

end Rows
end Go.Proofs.YtdkogijdfgfpeaaGreatDoor
