/-
  NARROWER THAN 'FOR EVERY INPUT', by the rows' own cells (each row's printed sentence says how): Packs: laid · Broken: laid · Reads: laid · Round: laid · One: laid.
  DERIVED. THE GIVEN ROWS OF THIS SEAT. 5 by the template 'for every input the law returns true; each argument reads behind the call as it read before'; 0 by the template 'total and deterministic' (their statements: YtflkafnhhadphaaDoorTotals.lean).
  GIVEN WITH THE SEED: the statements are not yours to turn. If you find one false, say at which input.
  Laid BY PROGRAM, IN A SANDBOX (cutbox-rows.mjs): the forced cells as the released guide's own fill.sh prints them over the translation 439ab77bb161ed22… (all of the seat's roots in one cut). By AI agents, Wed Nov 11 2026. No macro, syntax, notation, axiom, sorry.
-/
import Derived.Test.YtflkafnhhadphaaDoorChecked
import GoSem.PinnedTables
import GoSem.Claim
import GoSem.ClaimJoined
import GoSem.ClaimMapViews
import Derived.JoinedTies
import Derived.KernelRfl
namespace Go.Proofs.YtflkafnhhadphaaDoor
/- THE CELL 'sum', in the pinned program and in every row, IS THE sha256 OF THE DUMP (.gsa) THAT YtflkafnhhadphaaDoorProg.lean LOADS. Nothing in Lean hashes anything: it is a label: what it is worth is what the hold of that sum in a sandbox is worth. -/
noncomputable def Tryd.pinned : Pinned := { name := "ytflkafnhhadphaadoor", sum := "439ab77bb161ed22accd52728a580fb1ff392f0a15ca68a3fdffdfdeb24921a8", checked := Tryd.checked }
namespace Rows
def none {H : Type} : Left H := { results := [], args := [] }

/- WHAT THE LISTED PACKAGE-LEVEL VARIABLES READ AS WHEN THE CALL BEGINS. Each datum BY PROGRAM (the guide's laid-datum.mjs) off the statement by which the dump's own 'gosem.cut.vars' lays the variable. In a bare row this is a premise. The card (YtflkafnhhadphaaDoorCards.lean) ties it to the program's text. -/
def laid_unicode_utf8_acceptRanges {H : Type} : DataW H := .agg [.agg [.lit (.int .u8 128), .lit (.int .u8 191)], .agg [.lit (.int .u8 160), .lit (.int .u8 191)], .agg [.lit (.int .u8 128), .lit (.int .u8 159)], .agg [.lit (.int .u8 144), .lit (.int .u8 191)], .agg [.lit (.int .u8 128), .lit (.int .u8 143)], .agg [.lit (.int .u8 0), .lit (.int .u8 0)], .agg [.lit (.int .u8 0), .lit (.int .u8 0)], .agg [.lit (.int .u8 0), .lit (.int .u8 0)], .agg [.lit (.int .u8 0), .lit (.int .u8 0)], .agg [.lit (.int .u8 0), .lit (.int .u8 0)], .agg [.lit (.int .u8 0), .lit (.int .u8 0)], .agg [.lit (.int .u8 0), .lit (.int .u8 0)], .agg [.lit (.int .u8 0), .lit (.int .u8 0)], .agg [.lit (.int .u8 0), .lit (.int .u8 0)], .agg [.lit (.int .u8 0), .lit (.int .u8 0)], .agg [.lit (.int .u8 0), .lit (.int .u8 0)]]
/-- One of Go's own tables, pinned by name: the form's constant. -/
def laid_unicode_utf8_first : DataW Unit := Go.Pinned.utf8First

/-- 'narlaw.Packs': WHATEVER THE INPUT: true; the input reads as it did. -/
def packsSpec : ChangeSpec := { name := "packs", fn := fun _ => fun
  | [d] => { results := [.lit (.bool true)], args := [d] }
  | _ => none }
def packsRow : OpenClaim := { program := "ytflkafnhhadphaadoor", sum := "439ab77bb161ed22accd52728a580fb1ff392f0a15ca68a3fdffdfdeb24921a8", func := "nar/narlaw.Packs", spec := "packs", inPlace := ["internal/bytealg.IndexByteString", "internal/abi.NoEscape"], unfollowed := true, recurses := true, named := ["unicode/utf8.first", "unicode/utf8.acceptRanges"], apart := false, laid := [("unicode/utf8.acceptRanges", laid_unicode_utf8_acceptRanges), ("unicode/utf8.first", laid_unicode_utf8_first)] }
def PacksSaid : Prop := packsRow.holds Tryd.pinned (OpenSpec.ofChange packsSpec)

/-- ITS FALSE NEIGHBOUR: 'it returns false'. Refute it at one input. -/
def packsWrong : ChangeSpec := { name := "packs", fn := fun _ => fun
  | [d] => { results := [.lit (.bool false)], args := [d] }
  | _ => none }
def PacksWrongFalsely : Prop := packsRow.holds Tryd.pinned (OpenSpec.ofChange packsWrong)

/-- 'narkeep.Broken': WHATEVER THE INPUT: true; the input reads as it did. -/
def brokenSpec : ChangeSpec := { name := "broken", fn := fun _ => fun
  | [d1, d2, d3] => { results := [.lit (.bool true)], args := [d1, d2, d3] }
  | _ => none }
def brokenRow : OpenClaim := { program := "ytflkafnhhadphaadoor", sum := "439ab77bb161ed22accd52728a580fb1ff392f0a15ca68a3fdffdfdeb24921a8", func := "nar/narkeep.Broken", spec := "broken", inPlace := ["internal/bytealg.IndexByteString", "internal/abi.NoEscape"], unfollowed := true, recurses := true, named := ["unicode/utf8.first", "unicode/utf8.acceptRanges"], apart := false, laid := [("unicode/utf8.acceptRanges", laid_unicode_utf8_acceptRanges), ("unicode/utf8.first", laid_unicode_utf8_first)] }
def BrokenSaid : Prop := brokenRow.holds Tryd.pinned (OpenSpec.ofChange brokenSpec)

/-- ITS FALSE NEIGHBOUR: 'it returns false'. Refute it at one input. -/
def brokenWrong : ChangeSpec := { name := "broken", fn := fun _ => fun
  | [d1, d2, d3] => { results := [.lit (.bool false)], args := [d1, d2, d3] }
  | _ => none }
def BrokenWrongFalsely : Prop := brokenRow.holds Tryd.pinned (OpenSpec.ofChange brokenWrong)

/-- 'narlaw.Reads': WHATEVER THE INPUT: true; the input reads as it did. -/
def readsSpec : ChangeSpec := { name := "reads", fn := fun _ => fun
  | [d1, d2] => { results := [.lit (.bool true)], args := [d1, d2] }
  | _ => none }
def readsRow : OpenClaim := { program := "ytflkafnhhadphaadoor", sum := "439ab77bb161ed22accd52728a580fb1ff392f0a15ca68a3fdffdfdeb24921a8", func := "nar/narlaw.Reads", spec := "reads", inPlace := ["internal/bytealg.IndexByteString"], unfollowed := true, recurses := true, named := ["unicode/utf8.first", "unicode/utf8.acceptRanges"], apart := false, laid := [("unicode/utf8.acceptRanges", laid_unicode_utf8_acceptRanges), ("unicode/utf8.first", laid_unicode_utf8_first)] }
def ReadsSaid : Prop := readsRow.holds Tryd.pinned (OpenSpec.ofChange readsSpec)

/-- ITS FALSE NEIGHBOUR: 'it returns false'. Refute it at one input. -/
def readsWrong : ChangeSpec := { name := "reads", fn := fun _ => fun
  | [d1, d2] => { results := [.lit (.bool false)], args := [d1, d2] }
  | _ => none }
def ReadsWrongFalsely : Prop := readsRow.holds Tryd.pinned (OpenSpec.ofChange readsWrong)

/-- 'narkeep.Round': WHATEVER THE INPUT: true; the input reads as it did. -/
def roundSpec : ChangeSpec := { name := "round", fn := fun _ => fun
  | [d1, d2] => { results := [.lit (.bool true)], args := [d1, d2] }
  | _ => none }
def roundRow : OpenClaim := { program := "ytflkafnhhadphaadoor", sum := "439ab77bb161ed22accd52728a580fb1ff392f0a15ca68a3fdffdfdeb24921a8", func := "nar/narkeep.Round", spec := "round", inPlace := ["internal/bytealg.IndexByteString", "internal/abi.NoEscape"], unfollowed := true, recurses := true, named := ["unicode/utf8.first", "unicode/utf8.acceptRanges"], apart := false, laid := [("unicode/utf8.acceptRanges", laid_unicode_utf8_acceptRanges), ("unicode/utf8.first", laid_unicode_utf8_first)] }
def RoundSaid : Prop := roundRow.holds Tryd.pinned (OpenSpec.ofChange roundSpec)

/-- ITS FALSE NEIGHBOUR: 'it returns false'. Refute it at one input. -/
def roundWrong : ChangeSpec := { name := "round", fn := fun _ => fun
  | [d1, d2] => { results := [.lit (.bool false)], args := [d1, d2] }
  | _ => none }
def RoundWrongFalsely : Prop := roundRow.holds Tryd.pinned (OpenSpec.ofChange roundWrong)

/-- 'narkeep.One': WHATEVER THE INPUT: true; the input reads as it did. -/
def oneSpec : ChangeSpec := { name := "one", fn := fun _ => fun
  | [d1, d2] => { results := [.lit (.bool true)], args := [d1, d2] }
  | _ => none }
def oneRow : OpenClaim := { program := "ytflkafnhhadphaadoor", sum := "439ab77bb161ed22accd52728a580fb1ff392f0a15ca68a3fdffdfdeb24921a8", func := "nar/narkeep.One", spec := "one", inPlace := ["internal/bytealg.IndexByteString", "internal/abi.NoEscape"], unfollowed := true, recurses := true, named := ["unicode/utf8.first", "unicode/utf8.acceptRanges"], apart := false, laid := [("unicode/utf8.acceptRanges", laid_unicode_utf8_acceptRanges), ("unicode/utf8.first", laid_unicode_utf8_first)] }
def OneSaid : Prop := oneRow.holds Tryd.pinned (OpenSpec.ofChange oneSpec)

/-- ITS FALSE NEIGHBOUR: 'it returns false'. Refute it at one input. -/
def oneWrong : ChangeSpec := { name := "one", fn := fun _ => fun
  | [d1, d2] => { results := [.lit (.bool false)], args := [d1, d2] }
  | _ => none }
def OneWrongFalsely : Prop := oneRow.holds Tryd.pinned (OpenSpec.ofChange oneWrong)

/- THE SECOND FORM. 'bulk': how many values and letters a reading holds, each counted each time it is reached (what is shared counts as often as it is met; a slice's spare places count too). A statement '..UptoSaid' is the law's where the arguments, and the package variables that the reading takes, are together of bulk at most 1048576: NARROWER than '..Said'. Prove '..Said' where nothing that the law and all that it calls make is longer than what came in: it says more and counts as full. Else prove '..UptoSaid'. A law counts once. -/
mutual
def uptoBulk {H : Type} : DataW H → Nat
  | .lit (.string bytes) => bytes.length + 1
  | .lit _ => 1
  | .nil => 1
  | .ptr d => uptoBulk d + 1
  | .slice elems spare => uptoBulkAll elems + uptoBulkAll spare + 1
  | .agg parts => uptoBulkAll parts + 1
  | .iface _ d => uptoBulk d + 1
  | .map entries => uptoBulkEntries entries + 1
  | .held _ => 1
def uptoBulkAll {H : Type} : List (DataW H) → Nat
  | [] => 0
  | d :: r => uptoBulk d + uptoBulkAll r
def uptoBulkEntries {H : Type} : List (Lit × DataW H) → Nat
  | [] => 0
  | x :: r => uptoBulkEntry x + uptoBulkEntries r
def uptoBulkEntry {H : Type} : Lit × DataW H → Nat
  | (.string bytes, d) => bytes.length + uptoBulk d + 1
  | (_, d) => uptoBulk d + 1
 end
def uptoSmall : (H : Type) → List (DataW H) → Bool := fun _ ds => decide (uptoBulkAll ds ≤ 1048576)
def OpenSpec.upto (s : _root_.Go.ChangeSpec) : _root_.Go.OpenSpec := { _root_.Go.OpenSpec.ofChange s with cond := some uptoSmall }

/-- 'narlaw.Packs', WHERE WHAT IT READS IS OF BULK AT MOST 1048576: true; the input reads as it did. -/
def packsUptoRow : OpenClaim := { program := "ytflkafnhhadphaadoor", sum := "439ab77bb161ed22accd52728a580fb1ff392f0a15ca68a3fdffdfdeb24921a8", func := "nar/narlaw.Packs", spec := "packs", inPlace := ["internal/bytealg.IndexByteString", "internal/abi.NoEscape"], unfollowed := true, recurses := true, named := ["unicode/utf8.first", "unicode/utf8.acceptRanges"], apart := false, laid := [("unicode/utf8.acceptRanges", laid_unicode_utf8_acceptRanges), ("unicode/utf8.first", laid_unicode_utf8_first)], narrowed := true }
def PacksUptoSaid : Prop := packsUptoRow.holds Tryd.pinned (OpenSpec.upto packsSpec)

/-- 'narkeep.Broken', WHERE WHAT IT READS IS OF BULK AT MOST 1048576: true; the input reads as it did. -/
def brokenUptoRow : OpenClaim := { program := "ytflkafnhhadphaadoor", sum := "439ab77bb161ed22accd52728a580fb1ff392f0a15ca68a3fdffdfdeb24921a8", func := "nar/narkeep.Broken", spec := "broken", inPlace := ["internal/bytealg.IndexByteString", "internal/abi.NoEscape"], unfollowed := true, recurses := true, named := ["unicode/utf8.first", "unicode/utf8.acceptRanges"], apart := false, laid := [("unicode/utf8.acceptRanges", laid_unicode_utf8_acceptRanges), ("unicode/utf8.first", laid_unicode_utf8_first)], narrowed := true }
def BrokenUptoSaid : Prop := brokenUptoRow.holds Tryd.pinned (OpenSpec.upto brokenSpec)

/-- 'narlaw.Reads', WHERE WHAT IT READS IS OF BULK AT MOST 1048576: true; the input reads as it did. -/
def readsUptoRow : OpenClaim := { program := "ytflkafnhhadphaadoor", sum := "439ab77bb161ed22accd52728a580fb1ff392f0a15ca68a3fdffdfdeb24921a8", func := "nar/narlaw.Reads", spec := "reads", inPlace := ["internal/bytealg.IndexByteString"], unfollowed := true, recurses := true, named := ["unicode/utf8.first", "unicode/utf8.acceptRanges"], apart := false, laid := [("unicode/utf8.acceptRanges", laid_unicode_utf8_acceptRanges), ("unicode/utf8.first", laid_unicode_utf8_first)], narrowed := true }
def ReadsUptoSaid : Prop := readsUptoRow.holds Tryd.pinned (OpenSpec.upto readsSpec)

/-- 'narkeep.Round', WHERE WHAT IT READS IS OF BULK AT MOST 1048576: true; the input reads as it did. -/
def roundUptoRow : OpenClaim := { program := "ytflkafnhhadphaadoor", sum := "439ab77bb161ed22accd52728a580fb1ff392f0a15ca68a3fdffdfdeb24921a8", func := "nar/narkeep.Round", spec := "round", inPlace := ["internal/bytealg.IndexByteString", "internal/abi.NoEscape"], unfollowed := true, recurses := true, named := ["unicode/utf8.first", "unicode/utf8.acceptRanges"], apart := false, laid := [("unicode/utf8.acceptRanges", laid_unicode_utf8_acceptRanges), ("unicode/utf8.first", laid_unicode_utf8_first)], narrowed := true }
def RoundUptoSaid : Prop := roundUptoRow.holds Tryd.pinned (OpenSpec.upto roundSpec)

/-- 'narkeep.One', WHERE WHAT IT READS IS OF BULK AT MOST 1048576: true; the input reads as it did. -/
def oneUptoRow : OpenClaim := { program := "ytflkafnhhadphaadoor", sum := "439ab77bb161ed22accd52728a580fb1ff392f0a15ca68a3fdffdfdeb24921a8", func := "nar/narkeep.One", spec := "one", inPlace := ["internal/bytealg.IndexByteString", "internal/abi.NoEscape"], unfollowed := true, recurses := true, named := ["unicode/utf8.first", "unicode/utf8.acceptRanges"], apart := false, laid := [("unicode/utf8.acceptRanges", laid_unicode_utf8_acceptRanges), ("unicode/utf8.first", laid_unicode_utf8_first)], narrowed := true }
def OneUptoSaid : Prop := oneUptoRow.holds Tryd.pinned (OpenSpec.upto oneSpec)

end Rows
end Go.Proofs.YtflkafnhhadphaaDoor
