/-
  NARROWER THAN 'FOR EVERY INPUT', by the rows' own cells (each row's printed sentence says how): SubtypeAsks: laid · SubtypeOrder: laid · SubtypeMerge: laid · SubtypeArrays: laid · SubtypeNothing: laid · SubtypeTree: laid.
  DERIVED. THE GIVEN ROWS OF THIS SEAT. 6 by the template 'for every input the law returns true; each argument reads behind the call as it read before'; 0 by the template 'total and deterministic' (their statements: YtpajgenngpjbaaaGreatDoorTotals.lean).
  GIVEN WITH THE SEED: the statements are not yours to turn. If you find one false, say at which input.
  Laid BY PROGRAM, IN A SANDBOX (cutbox-rows.mjs): the forced cells as the released guide's own fill.sh prints them over the translation 76d92fb13fe30107… (all of the seat's roots in one cut). By AI agents, Wed Nov 11 2026. No macro, syntax, notation, axiom, sorry.
-/
import Derived.Test.YtpajgenngpjbaaaGreatDoorChecked
import GoSem.PinnedTables
import GoSem.Claim
import GoSem.ClaimJoined
import GoSem.ClaimMapViews
import Derived.JoinedTies
import Derived.KernelRfl
namespace Go.Proofs.YtpajgenngpjbaaaGreatDoor
/- THE CELL 'sum', in the pinned program and in every row, IS THE sha256 OF THE DUMP (.gsa) THAT YtpajgenngpjbaaaGreatDoorProg.lean LOADS. Nothing in Lean hashes anything: it is a label: what it is worth is what the hold of that sum in a sandbox is worth. -/
noncomputable def Tryz.pinned : Pinned := { name := "ytpajgenngpjbaaagreatdoor", sum := "76d92fb13fe3010754168c9046f252be23cd47b9371d9e13793b56cdd16f8ec3", checked := Tryz.checked }
namespace Rows
def none {H : Type} : Left H := { results := [], args := [] }

/- WHAT THE LISTED PACKAGE-LEVEL VARIABLES READ AS WHEN THE CALL BEGINS. Each datum BY PROGRAM (the guide's laid-datum.mjs) off the statement by which the dump's own 'gosem.cut.vars' lays the variable. In a bare row this is a premise. The card (YtpajgenngpjbaaaGreatDoorCards.lean) ties it to the program's text. -/
def laid_unicode_utf8_acceptRanges {H : Type} : DataW H := .agg [.agg [.lit (.int .u8 128), .lit (.int .u8 191)], .agg [.lit (.int .u8 160), .lit (.int .u8 191)], .agg [.lit (.int .u8 128), .lit (.int .u8 159)], .agg [.lit (.int .u8 144), .lit (.int .u8 191)], .agg [.lit (.int .u8 128), .lit (.int .u8 143)], .agg [.lit (.int .u8 0), .lit (.int .u8 0)], .agg [.lit (.int .u8 0), .lit (.int .u8 0)], .agg [.lit (.int .u8 0), .lit (.int .u8 0)], .agg [.lit (.int .u8 0), .lit (.int .u8 0)], .agg [.lit (.int .u8 0), .lit (.int .u8 0)], .agg [.lit (.int .u8 0), .lit (.int .u8 0)], .agg [.lit (.int .u8 0), .lit (.int .u8 0)], .agg [.lit (.int .u8 0), .lit (.int .u8 0)], .agg [.lit (.int .u8 0), .lit (.int .u8 0)], .agg [.lit (.int .u8 0), .lit (.int .u8 0)], .agg [.lit (.int .u8 0), .lit (.int .u8 0)]]
/-- One of Go's own tables, pinned by name: the form's constant. -/
def laid_unicode_utf8_first : DataW Unit := Go.Pinned.utf8First

/-- 'lanternlaw7.SubtypeAsks': WHATEVER THE INPUT: true; the input reads as it did. -/
def subtypeAsksSpec : ChangeSpec := { name := "subtypeAsks", fn := fun _ => fun
  | [d1, d2, d3, d4, d5] => { results := [.lit (.bool true)], args := [d1, d2, d3, d4, d5] }
  | _ => none }
def subtypeAsksRow : OpenClaim := { program := "ytpajgenngpjbaaagreatdoor", sum := "76d92fb13fe3010754168c9046f252be23cd47b9371d9e13793b56cdd16f8ec3", func := "lantern/lanternlaw7.SubtypeAsks", spec := "subtypeAsks", inPlace := ["internal/bytealg.IndexByteString", "internal/bytealg.IndexString"], unfollowed := true, recurses := true, named := ["unicode/utf8.first", "unicode/utf8.acceptRanges", "internal/bytealg.MaxLen"], apart := false, laid := [("unicode/utf8.acceptRanges", laid_unicode_utf8_acceptRanges), ("unicode/utf8.first", laid_unicode_utf8_first)] }
def SubtypeAsksSaid : Prop := subtypeAsksRow.holds Tryz.pinned (OpenSpec.ofChange subtypeAsksSpec)

/-- ITS FALSE NEIGHBOUR: 'it returns false'. Refute it at one input. -/
def subtypeAsksWrong : ChangeSpec := { name := "subtypeAsks", fn := fun _ => fun
  | [d1, d2, d3, d4, d5] => { results := [.lit (.bool false)], args := [d1, d2, d3, d4, d5] }
  | _ => none }
def SubtypeAsksWrongFalsely : Prop := subtypeAsksRow.holds Tryz.pinned (OpenSpec.ofChange subtypeAsksWrong)

/-- 'lanternlaw7.SubtypeOrder': WHATEVER THE INPUT: true; the input reads as it did. -/
def subtypeOrderSpec : ChangeSpec := { name := "subtypeOrder", fn := fun _ => fun
  | [d1, d2, d3, d4] => { results := [.lit (.bool true)], args := [d1, d2, d3, d4] }
  | _ => none }
def subtypeOrderRow : OpenClaim := { program := "ytpajgenngpjbaaagreatdoor", sum := "76d92fb13fe3010754168c9046f252be23cd47b9371d9e13793b56cdd16f8ec3", func := "lantern/lanternlaw7.SubtypeOrder", spec := "subtypeOrder", inPlace := ["internal/bytealg.IndexByteString", "internal/bytealg.IndexString"], unfollowed := true, recurses := true, named := ["unicode/utf8.first", "unicode/utf8.acceptRanges", "internal/bytealg.MaxLen"], apart := false, laid := [("unicode/utf8.acceptRanges", laid_unicode_utf8_acceptRanges), ("unicode/utf8.first", laid_unicode_utf8_first)] }
def SubtypeOrderSaid : Prop := subtypeOrderRow.holds Tryz.pinned (OpenSpec.ofChange subtypeOrderSpec)

/-- ITS FALSE NEIGHBOUR: 'it returns false'. Refute it at one input. -/
def subtypeOrderWrong : ChangeSpec := { name := "subtypeOrder", fn := fun _ => fun
  | [d1, d2, d3, d4] => { results := [.lit (.bool false)], args := [d1, d2, d3, d4] }
  | _ => none }
def SubtypeOrderWrongFalsely : Prop := subtypeOrderRow.holds Tryz.pinned (OpenSpec.ofChange subtypeOrderWrong)

/-- 'lanternlaw7.SubtypeMerge': WHATEVER THE INPUT: true; the input reads as it did. -/
def subtypeMergeSpec : ChangeSpec := { name := "subtypeMerge", fn := fun _ => fun
  | [d1, d2, d3, d4] => { results := [.lit (.bool true)], args := [d1, d2, d3, d4] }
  | _ => none }
def subtypeMergeRow : OpenClaim := { program := "ytpajgenngpjbaaagreatdoor", sum := "76d92fb13fe3010754168c9046f252be23cd47b9371d9e13793b56cdd16f8ec3", func := "lantern/lanternlaw7.SubtypeMerge", spec := "subtypeMerge", inPlace := ["internal/bytealg.IndexByteString", "internal/bytealg.IndexString"], unfollowed := true, recurses := true, named := ["unicode/utf8.first", "unicode/utf8.acceptRanges", "internal/bytealg.MaxLen"], apart := false, laid := [("unicode/utf8.acceptRanges", laid_unicode_utf8_acceptRanges), ("unicode/utf8.first", laid_unicode_utf8_first)] }
def SubtypeMergeSaid : Prop := subtypeMergeRow.holds Tryz.pinned (OpenSpec.ofChange subtypeMergeSpec)

/-- ITS FALSE NEIGHBOUR: 'it returns false'. Refute it at one input. -/
def subtypeMergeWrong : ChangeSpec := { name := "subtypeMerge", fn := fun _ => fun
  | [d1, d2, d3, d4] => { results := [.lit (.bool false)], args := [d1, d2, d3, d4] }
  | _ => none }
def SubtypeMergeWrongFalsely : Prop := subtypeMergeRow.holds Tryz.pinned (OpenSpec.ofChange subtypeMergeWrong)

/-- 'lanternlaw7.SubtypeArrays': WHATEVER THE INPUT: true; the input reads as it did. -/
def subtypeArraysSpec : ChangeSpec := { name := "subtypeArrays", fn := fun _ => fun
  | [d1, d2, d3, d4] => { results := [.lit (.bool true)], args := [d1, d2, d3, d4] }
  | _ => none }
def subtypeArraysRow : OpenClaim := { program := "ytpajgenngpjbaaagreatdoor", sum := "76d92fb13fe3010754168c9046f252be23cd47b9371d9e13793b56cdd16f8ec3", func := "lantern/lanternlaw7.SubtypeArrays", spec := "subtypeArrays", inPlace := ["internal/bytealg.IndexByteString", "internal/bytealg.IndexString"], unfollowed := true, recurses := true, named := ["unicode/utf8.first", "unicode/utf8.acceptRanges", "internal/bytealg.MaxLen"], apart := false, laid := [("unicode/utf8.acceptRanges", laid_unicode_utf8_acceptRanges), ("unicode/utf8.first", laid_unicode_utf8_first)] }
def SubtypeArraysSaid : Prop := subtypeArraysRow.holds Tryz.pinned (OpenSpec.ofChange subtypeArraysSpec)

/-- ITS FALSE NEIGHBOUR: 'it returns false'. Refute it at one input. -/
def subtypeArraysWrong : ChangeSpec := { name := "subtypeArrays", fn := fun _ => fun
  | [d1, d2, d3, d4] => { results := [.lit (.bool false)], args := [d1, d2, d3, d4] }
  | _ => none }
def SubtypeArraysWrongFalsely : Prop := subtypeArraysRow.holds Tryz.pinned (OpenSpec.ofChange subtypeArraysWrong)

/-- 'lanternlaw7.SubtypeNothing': WHATEVER THE INPUT: true; the input reads as it did. -/
def subtypeNothingSpec : ChangeSpec := { name := "subtypeNothing", fn := fun _ => fun
  | [d1, d2] => { results := [.lit (.bool true)], args := [d1, d2] }
  | _ => none }
def subtypeNothingRow : OpenClaim := { program := "ytpajgenngpjbaaagreatdoor", sum := "76d92fb13fe3010754168c9046f252be23cd47b9371d9e13793b56cdd16f8ec3", func := "lantern/lanternlaw7.SubtypeNothing", spec := "subtypeNothing", inPlace := ["internal/bytealg.IndexByteString", "internal/bytealg.IndexString"], unfollowed := true, recurses := true, named := ["unicode/utf8.first", "unicode/utf8.acceptRanges", "internal/bytealg.MaxLen"], apart := false, laid := [("unicode/utf8.acceptRanges", laid_unicode_utf8_acceptRanges), ("unicode/utf8.first", laid_unicode_utf8_first)] }
def SubtypeNothingSaid : Prop := subtypeNothingRow.holds Tryz.pinned (OpenSpec.ofChange subtypeNothingSpec)

/-- ITS FALSE NEIGHBOUR: 'it returns false'. Refute it at one input. -/
def subtypeNothingWrong : ChangeSpec := { name := "subtypeNothing", fn := fun _ => fun
  | [d1, d2] => { results := [.lit (.bool false)], args := [d1, d2] }
  | _ => none }
def SubtypeNothingWrongFalsely : Prop := subtypeNothingRow.holds Tryz.pinned (OpenSpec.ofChange subtypeNothingWrong)

/-- 'lanternlaw7.SubtypeTree': WHATEVER THE INPUT: true; the input reads as it did. -/
def subtypeTreeSpec : ChangeSpec := { name := "subtypeTree", fn := fun _ => fun
  | [d1, d2, d3, d4] => { results := [.lit (.bool true)], args := [d1, d2, d3, d4] }
  | _ => none }
def subtypeTreeRow : OpenClaim := { program := "ytpajgenngpjbaaagreatdoor", sum := "76d92fb13fe3010754168c9046f252be23cd47b9371d9e13793b56cdd16f8ec3", func := "lantern/lanternlaw7.SubtypeTree", spec := "subtypeTree", inPlace := ["internal/bytealg.IndexByteString", "internal/bytealg.IndexString"], unfollowed := true, recurses := true, named := ["unicode/utf8.first", "unicode/utf8.acceptRanges", "internal/bytealg.MaxLen"], apart := false, laid := [("unicode/utf8.acceptRanges", laid_unicode_utf8_acceptRanges), ("unicode/utf8.first", laid_unicode_utf8_first)] }
def SubtypeTreeSaid : Prop := subtypeTreeRow.holds Tryz.pinned (OpenSpec.ofChange subtypeTreeSpec)

/-- ITS FALSE NEIGHBOUR: 'it returns false'. Refute it at one input. -/
def subtypeTreeWrong : ChangeSpec := { name := "subtypeTree", fn := fun _ => fun
  | [d1, d2, d3, d4] => { results := [.lit (.bool false)], args := [d1, d2, d3, d4] }
  | _ => none }
def SubtypeTreeWrongFalsely : Prop := subtypeTreeRow.holds Tryz.pinned (OpenSpec.ofChange subtypeTreeWrong)

/- THE SECOND FORM. 'bulk': how many values and letters a reading holds, each counted each time it is reached (what is shared counts as often as it is met; a slice's spare places count too). A statement '..UptoSaid' is the law's where the arguments, and the package variables that the reading takes, are together of bulk at most 1048576: NARROWER than '..Said'. Prove '..Said' where nothing that the law and all that it calls make is longer than what came in: it says more and counts as full. Else prove '..UptoSaid'. A law counts once. -/
mutual
def uptoBulk {H : Type} : DataW H → Nat
  | .lit (.string bytes) => bytes.length + 1
  | .lit _ => 1
  | .nil => 1
  | .ptr d => uptoBulk d + 1
  | .slice elems spare => uptoBulkAll elems + uptoBulkAll spare + 1
  | .agg parts => uptoBulkAll parts + 1
  | .iface _ d => uptoBulk d + 1
  | .map entries => uptoBulkEntries entries + 1
  | .held _ => 1
def uptoBulkAll {H : Type} : List (DataW H) → Nat
  | [] => 0
  | d :: r => uptoBulk d + uptoBulkAll r
def uptoBulkEntries {H : Type} : List (Lit × DataW H) → Nat
  | [] => 0
  | x :: r => uptoBulkEntry x + uptoBulkEntries r
def uptoBulkEntry {H : Type} : Lit × DataW H → Nat
  | (.string bytes, d) => bytes.length + uptoBulk d + 1
  | (_, d) => uptoBulk d + 1
 end
def uptoSmall : (H : Type) → List (DataW H) → Bool := fun _ ds => decide (uptoBulkAll ds ≤ 1048576)
def OpenSpec.upto (s : _root_.Go.ChangeSpec) : _root_.Go.OpenSpec := { _root_.Go.OpenSpec.ofChange s with cond := some uptoSmall }

/-- 'lanternlaw7.SubtypeAsks', WHERE WHAT IT READS IS OF BULK AT MOST 1048576: true; the input reads as it did. -/
def subtypeAsksUptoRow : OpenClaim := { program := "ytpajgenngpjbaaagreatdoor", sum := "76d92fb13fe3010754168c9046f252be23cd47b9371d9e13793b56cdd16f8ec3", func := "lantern/lanternlaw7.SubtypeAsks", spec := "subtypeAsks", inPlace := ["internal/bytealg.IndexByteString", "internal/bytealg.IndexString"], unfollowed := true, recurses := true, named := ["unicode/utf8.first", "unicode/utf8.acceptRanges", "internal/bytealg.MaxLen"], apart := false, laid := [("unicode/utf8.acceptRanges", laid_unicode_utf8_acceptRanges), ("unicode/utf8.first", laid_unicode_utf8_first)], narrowed := true }
def SubtypeAsksUptoSaid : Prop := subtypeAsksUptoRow.holds Tryz.pinned (OpenSpec.upto subtypeAsksSpec)

/-- 'lanternlaw7.SubtypeOrder', WHERE WHAT IT READS IS OF BULK AT MOST 1048576: true; the input reads as it did. -/
def subtypeOrderUptoRow : OpenClaim := { program := "ytpajgenngpjbaaagreatdoor", sum := "76d92fb13fe3010754168c9046f252be23cd47b9371d9e13793b56cdd16f8ec3", func := "lantern/lanternlaw7.SubtypeOrder", spec := "subtypeOrder", inPlace := ["internal/bytealg.IndexByteString", "internal/bytealg.IndexString"], unfollowed := true, recurses := true, named := ["unicode/utf8.first", "unicode/utf8.acceptRanges", "internal/bytealg.MaxLen"], apart := false, laid := [("unicode/utf8.acceptRanges", laid_unicode_utf8_acceptRanges), ("unicode/utf8.first", laid_unicode_utf8_first)], narrowed := true }
def SubtypeOrderUptoSaid : Prop := subtypeOrderUptoRow.holds Tryz.pinned (OpenSpec.upto subtypeOrderSpec)

/-- 'lanternlaw7.SubtypeMerge', WHERE WHAT IT READS IS OF BULK AT MOST 1048576: true; the input reads as it did. -/
def subtypeMergeUptoRow : OpenClaim := { program := "ytpajgenngpjbaaagreatdoor", sum := "76d92fb13fe3010754168c9046f252be23cd47b9371d9e13793b56cdd16f8ec3", func := "lantern/lanternlaw7.SubtypeMerge", spec := "subtypeMerge", inPlace := ["internal/bytealg.IndexByteString", "internal/bytealg.IndexString"], unfollowed := true, recurses := true, named := ["unicode/utf8.first", "unicode/utf8.acceptRanges", "internal/bytealg.MaxLen"], apart := false, laid := [("unicode/utf8.acceptRanges", laid_unicode_utf8_acceptRanges), ("unicode/utf8.first", laid_unicode_utf8_first)], narrowed := true }
def SubtypeMergeUptoSaid : Prop := subtypeMergeUptoRow.holds Tryz.pinned (OpenSpec.upto subtypeMergeSpec)

/-- 'lanternlaw7.SubtypeArrays', WHERE WHAT IT READS IS OF BULK AT MOST 1048576: true; the input reads as it did. -/
def subtypeArraysUptoRow : OpenClaim := { program := "ytpajgenngpjbaaagreatdoor", sum := "76d92fb13fe3010754168c9046f252be23cd47b9371d9e13793b56cdd16f8ec3", func := "lantern/lanternlaw7.SubtypeArrays", spec := "subtypeArrays", inPlace := ["internal/bytealg.IndexByteString", "internal/bytealg.IndexString"], unfollowed := true, recurses := true, named := ["unicode/utf8.first", "unicode/utf8.acceptRanges", "internal/bytealg.MaxLen"], apart := false, laid := [("unicode/utf8.acceptRanges", laid_unicode_utf8_acceptRanges), ("unicode/utf8.first", laid_unicode_utf8_first)], narrowed := true }
def SubtypeArraysUptoSaid : Prop := subtypeArraysUptoRow.holds Tryz.pinned (OpenSpec.upto subtypeArraysSpec)

/-- 'lanternlaw7.SubtypeNothing', WHERE WHAT IT READS IS OF BULK AT MOST 1048576: true; the input reads as it did. -/
def subtypeNothingUptoRow : OpenClaim := { program := "ytpajgenngpjbaaagreatdoor", sum := "76d92fb13fe3010754168c9046f252be23cd47b9371d9e13793b56cdd16f8ec3", func := "lantern/lanternlaw7.SubtypeNothing", spec := "subtypeNothing", inPlace := ["internal/bytealg.IndexByteString", "internal/bytealg.IndexString"], unfollowed := true, recurses := true, named := ["unicode/utf8.first", "unicode/utf8.acceptRanges", "internal/bytealg.MaxLen"], apart := false, laid := [("unicode/utf8.acceptRanges", laid_unicode_utf8_acceptRanges), ("unicode/utf8.first", laid_unicode_utf8_first)], narrowed := true }
def SubtypeNothingUptoSaid : Prop := subtypeNothingUptoRow.holds Tryz.pinned (OpenSpec.upto subtypeNothingSpec)

/-- 'lanternlaw7.SubtypeTree', WHERE WHAT IT READS IS OF BULK AT MOST 1048576: true; the input reads as it did. -/
def subtypeTreeUptoRow : OpenClaim := { program := "ytpajgenngpjbaaagreatdoor", sum := "76d92fb13fe3010754168c9046f252be23cd47b9371d9e13793b56cdd16f8ec3", func := "lantern/lanternlaw7.SubtypeTree", spec := "subtypeTree", inPlace := ["internal/bytealg.IndexByteString", "internal/bytealg.IndexString"], unfollowed := true, recurses := true, named := ["unicode/utf8.first", "unicode/utf8.acceptRanges", "internal/bytealg.MaxLen"], apart := false, laid := [("unicode/utf8.acceptRanges", laid_unicode_utf8_acceptRanges), ("unicode/utf8.first", laid_unicode_utf8_first)], narrowed := true }
def SubtypeTreeUptoSaid : Prop := subtypeTreeUptoRow.holds Tryz.pinned (OpenSpec.upto subtypeTreeSpec)

end Rows
end Go.Proofs.YtpajgenngpjbaaaGreatDoor
