/-
  No cell of these rows narrows 'for every input' (looked for: loops, veiled, ifaces, maps, wideKeys, modest, calm, conditions, laid).
  DERIVED. THE GIVEN ROWS OF THIS SEAT. 4 by the template 'for every input the law returns true; each argument reads behind the call as it read before'; 0 by the template 'total and deterministic' (their statements: YtgmlanhhjmhmmaaTotals.lean).
  GIVEN WITH THE SEED: the statements are not yours to turn. If you find one false, say at which input.
  Laid BY PROGRAM, IN A SANDBOX (cutbox-rows.mjs): the forced cells as the released guide's own fill.sh prints them over the translation f1438cb5014ae5db… (all of the seat's roots in one cut). By AI agents, Wed Nov 11 2026. No macro, syntax, notation, axiom, sorry.
-/
import Derived.Test.YtgmlanhhjmhmmaaChecked
import GoSem.Claim
import GoSem.ClaimJoined
import GoSem.ClaimMapViews
import Derived.JoinedTies
import Derived.KernelRfl
namespace Go.Proofs.Ytgmlanhhjmhmmaa
/- THE CELL 'sum', in the pinned program and in every row, IS THE sha256 OF THE DUMP (.gsa) THAT YtgmlanhhjmhmmaaProg.lean LOADS. Nothing in Lean hashes anything: it is a label: what it is worth is what the hold of that sum in a sandbox is worth. -/
noncomputable def Try.pinned : Pinned := { name := "ytgmlanhhjmhmmaa", sum := "f1438cb5014ae5dbb1663955e0debf16dc814a1756ed4ab2e36f731fd50af4c6", checked := Try.checked }
namespace Rows
def none {H : Type} : Left H := { results := [], args := [] }

/-- 'lanternlaw5.ClassWrites': WHATEVER THE INPUT: true; the input reads as it did. -/
def classWritesSpec : ChangeSpec := { name := "classWrites", fn := fun _ => fun
  | [d] => { results := [.lit (.bool true)], args := [d] }
  | _ => none }
def classWritesRow : OpenClaim := { program := "ytgmlanhhjmhmmaa", sum := "f1438cb5014ae5dbb1663955e0debf16dc814a1756ed4ab2e36f731fd50af4c6", func := "lantern/lanternlaw5.ClassWrites", spec := "classWrites", inPlace := ["internal/bytealg.IndexByteString"], unfollowed := true, recurses := true, apart := false }
def ClassWritesSaid : Prop := classWritesRow.holds Try.pinned (OpenSpec.ofChange classWritesSpec)

/-- ITS FALSE NEIGHBOUR: 'it returns false'. Refute it at one input. -/
def classWritesWrong : ChangeSpec := { name := "classWrites", fn := fun _ => fun
  | [d] => { results := [.lit (.bool false)], args := [d] }
  | _ => none }
def ClassWritesWrongFalsely : Prop := classWritesRow.holds Try.pinned (OpenSpec.ofChange classWritesWrong)

/-- 'lanternlaw5.ClassSame': WHATEVER THE INPUT: true; the input reads as it did. -/
def classSameSpec : ChangeSpec := { name := "classSame", fn := fun _ => fun
  | [d1, d2] => { results := [.lit (.bool true)], args := [d1, d2] }
  | _ => none }
def classSameRow : OpenClaim := { program := "ytgmlanhhjmhmmaa", sum := "f1438cb5014ae5dbb1663955e0debf16dc814a1756ed4ab2e36f731fd50af4c6", func := "lantern/lanternlaw5.ClassSame", spec := "classSame", inPlace := ["internal/bytealg.IndexByteString"], unfollowed := true, recurses := true, apart := false }
def ClassSameSaid : Prop := classSameRow.holds Try.pinned (OpenSpec.ofChange classSameSpec)

/-- ITS FALSE NEIGHBOUR: 'it returns false'. Refute it at one input. -/
def classSameWrong : ChangeSpec := { name := "classSame", fn := fun _ => fun
  | [d1, d2] => { results := [.lit (.bool false)], args := [d1, d2] }
  | _ => none }
def ClassSameWrongFalsely : Prop := classSameRow.holds Try.pinned (OpenSpec.ofChange classSameWrong)

/-- 'lanternlaw5.ClassLimits': WHATEVER THE INPUT: true; the input reads as it did. -/
def classLimitsSpec : ChangeSpec := { name := "classLimits", fn := fun _ => fun
  | [d1, d2] => { results := [.lit (.bool true)], args := [d1, d2] }
  | _ => none }
def classLimitsRow : OpenClaim := { program := "ytgmlanhhjmhmmaa", sum := "f1438cb5014ae5dbb1663955e0debf16dc814a1756ed4ab2e36f731fd50af4c6", func := "lantern/lanternlaw5.ClassLimits", spec := "classLimits", inPlace := ["internal/bytealg.IndexByteString"], unfollowed := true, recurses := true, apart := false }
def ClassLimitsSaid : Prop := classLimitsRow.holds Try.pinned (OpenSpec.ofChange classLimitsSpec)

/-- ITS FALSE NEIGHBOUR: 'it returns false'. Refute it at one input. -/
def classLimitsWrong : ChangeSpec := { name := "classLimits", fn := fun _ => fun
  | [d1, d2] => { results := [.lit (.bool false)], args := [d1, d2] }
  | _ => none }
def ClassLimitsWrongFalsely : Prop := classLimitsRow.holds Try.pinned (OpenSpec.ofChange classLimitsWrong)

/-- 'lanternlaw5.ClassPool': WHATEVER THE INPUT: true; the input reads as it did. -/
def classPoolSpec : ChangeSpec := { name := "classPool", fn := fun _ => fun
  | [d] => { results := [.lit (.bool true)], args := [d] }
  | _ => none }
def classPoolRow : OpenClaim := { program := "ytgmlanhhjmhmmaa", sum := "f1438cb5014ae5dbb1663955e0debf16dc814a1756ed4ab2e36f731fd50af4c6", func := "lantern/lanternlaw5.ClassPool", spec := "classPool", inPlace := ["internal/bytealg.IndexByteString"], unfollowed := true, recurses := true, apart := false }
def ClassPoolSaid : Prop := classPoolRow.holds Try.pinned (OpenSpec.ofChange classPoolSpec)

/-- ITS FALSE NEIGHBOUR: 'it returns false'. Refute it at one input. -/
def classPoolWrong : ChangeSpec := { name := "classPool", fn := fun _ => fun
  | [d] => { results := [.lit (.bool false)], args := [d] }
  | _ => none }
def ClassPoolWrongFalsely : Prop := classPoolRow.holds Try.pinned (OpenSpec.ofChange classPoolWrong)

/- THE SECOND FORM. 'bulk': how many values and letters a reading holds, each counted each time it is reached (what is shared counts as often as it is met; a slice's spare places count too). A statement '..UptoSaid' is the law's where the arguments, and the package variables that the reading takes, are together of bulk at most 1048576: NARROWER than '..Said'. Prove '..Said' where nothing that the law and all that it calls make is longer than what came in: it says more and counts as full. Else prove '..UptoSaid'. A law counts once. -/
mutual
def uptoBulk {H : Type} : DataW H → Nat
  | .lit (.string bytes) => bytes.length + 1
  | .lit _ => 1
  | .nil => 1
  | .ptr d => uptoBulk d + 1
  | .slice elems spare => uptoBulkAll elems + uptoBulkAll spare + 1
  | .agg parts => uptoBulkAll parts + 1
  | .iface _ d => uptoBulk d + 1
  | .map entries => uptoBulkEntries entries + 1
  | .held _ => 1
def uptoBulkAll {H : Type} : List (DataW H) → Nat
  | [] => 0
  | d :: r => uptoBulk d + uptoBulkAll r
def uptoBulkEntries {H : Type} : List (Lit × DataW H) → Nat
  | [] => 0
  | x :: r => uptoBulkEntry x + uptoBulkEntries r
def uptoBulkEntry {H : Type} : Lit × DataW H → Nat
  | (.string bytes, d) => bytes.length + uptoBulk d + 1
  | (_, d) => uptoBulk d + 1
 end
def uptoSmall : (H : Type) → List (DataW H) → Bool := fun _ ds => decide (uptoBulkAll ds ≤ 1048576)
def OpenSpec.upto (s : _root_.Go.ChangeSpec) : _root_.Go.OpenSpec := { _root_.Go.OpenSpec.ofChange s with cond := some uptoSmall }

/-- 'lanternlaw5.ClassWrites', WHERE WHAT IT READS IS OF BULK AT MOST 1048576: true; the input reads as it did. -/
def classWritesUptoRow : OpenClaim := { program := "ytgmlanhhjmhmmaa", sum := "f1438cb5014ae5dbb1663955e0debf16dc814a1756ed4ab2e36f731fd50af4c6", func := "lantern/lanternlaw5.ClassWrites", spec := "classWrites", inPlace := ["internal/bytealg.IndexByteString"], unfollowed := true, recurses := true, apart := false, narrowed := true }
def ClassWritesUptoSaid : Prop := classWritesUptoRow.holds Try.pinned (OpenSpec.upto classWritesSpec)

/-- 'lanternlaw5.ClassSame', WHERE WHAT IT READS IS OF BULK AT MOST 1048576: true; the input reads as it did. -/
def classSameUptoRow : OpenClaim := { program := "ytgmlanhhjmhmmaa", sum := "f1438cb5014ae5dbb1663955e0debf16dc814a1756ed4ab2e36f731fd50af4c6", func := "lantern/lanternlaw5.ClassSame", spec := "classSame", inPlace := ["internal/bytealg.IndexByteString"], unfollowed := true, recurses := true, apart := false, narrowed := true }
def ClassSameUptoSaid : Prop := classSameUptoRow.holds Try.pinned (OpenSpec.upto classSameSpec)

/-- 'lanternlaw5.ClassLimits', WHERE WHAT IT READS IS OF BULK AT MOST 1048576: true; the input reads as it did. -/
def classLimitsUptoRow : OpenClaim := { program := "ytgmlanhhjmhmmaa", sum := "f1438cb5014ae5dbb1663955e0debf16dc814a1756ed4ab2e36f731fd50af4c6", func := "lantern/lanternlaw5.ClassLimits", spec := "classLimits", inPlace := ["internal/bytealg.IndexByteString"], unfollowed := true, recurses := true, apart := false, narrowed := true }
def ClassLimitsUptoSaid : Prop := classLimitsUptoRow.holds Try.pinned (OpenSpec.upto classLimitsSpec)

/-- 'lanternlaw5.ClassPool', WHERE WHAT IT READS IS OF BULK AT MOST 1048576: true; the input reads as it did. -/
def classPoolUptoRow : OpenClaim := { program := "ytgmlanhhjmhmmaa", sum := "f1438cb5014ae5dbb1663955e0debf16dc814a1756ed4ab2e36f731fd50af4c6", func := "lantern/lanternlaw5.ClassPool", spec := "classPool", inPlace := ["internal/bytealg.IndexByteString"], unfollowed := true, recurses := true, apart := false, narrowed := true }
def ClassPoolUptoSaid : Prop := classPoolUptoRow.holds Try.pinned (OpenSpec.upto classPoolSpec)

end Rows
end Go.Proofs.Ytgmlanhhjmhmmaa
