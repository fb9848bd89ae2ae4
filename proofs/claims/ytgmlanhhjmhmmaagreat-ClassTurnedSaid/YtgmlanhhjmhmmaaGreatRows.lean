/-
  No cell of these rows narrows 'for every input' (looked for: loops, veiled, ifaces, maps, wideKeys, modest, calm, conditions, laid).
  DERIVED. THE GIVEN ROWS OF THIS SEAT. 3 by the template 'for every input the law returns true; each argument reads behind the call as it read before'; 0 by the template 'total and deterministic' (their statements: YtgmlanhhjmhmmaaGreatTotals.lean).
  GIVEN WITH THE SEED: the statements are not yours to turn. If you find one false, say at which input.
  Laid BY PROGRAM, IN A SANDBOX (cutbox-rows.mjs): the forced cells as the released guide's own fill.sh prints them over the translation 9a786bf73a126881… (all of the seat's roots in one cut). By AI agents, Wed Nov 11 2026. No macro, syntax, notation, axiom, sorry.
-/
import Derived.Test.YtgmlanhhjmhmmaaGreatChecked
import GoSem.Claim
import GoSem.ClaimJoined
import GoSem.ClaimMapViews
import Derived.JoinedTies
import Derived.KernelRfl
namespace Go.Proofs.YtgmlanhhjmhmmaaGreat
/- THE CELL 'sum', in the pinned program and in every row, IS THE sha256 OF THE DUMP (.gsa) THAT YtgmlanhhjmhmmaaGreatProg.lean LOADS. Nothing in Lean hashes anything: it is a label: what it is worth is what the hold of that sum in a sandbox is worth. -/
noncomputable def Tryz.pinned : Pinned := { name := "ytgmlanhhjmhmmaagreat", sum := "9a786bf73a126881b9e2a4bf3006bc6d87efea2a1caa129c0acaa88ad7f57b0c", checked := Tryz.checked }
namespace Rows
def none {H : Type} : Left H := { results := [], args := [] }

/-- 'lanternlaw5.ClassBack': WHATEVER THE INPUT: true; the input reads as it did. -/
def classBackSpec : ChangeSpec := { name := "classBack", fn := fun _ => fun
  | [d] => { results := [.lit (.bool true)], args := [d] }
  | _ => none }
def classBackRow : OpenClaim := { program := "ytgmlanhhjmhmmaagreat", sum := "9a786bf73a126881b9e2a4bf3006bc6d87efea2a1caa129c0acaa88ad7f57b0c", func := "lantern/lanternlaw5.ClassBack", spec := "classBack", inPlace := ["internal/bytealg.IndexByteString"], unfollowed := true, recurses := true, apart := false }
def ClassBackSaid : Prop := classBackRow.holds Tryz.pinned (OpenSpec.ofChange classBackSpec)

/-- ITS FALSE NEIGHBOUR: 'it returns false'. Refute it at one input. -/
def classBackWrong : ChangeSpec := { name := "classBack", fn := fun _ => fun
  | [d] => { results := [.lit (.bool false)], args := [d] }
  | _ => none }
def ClassBackWrongFalsely : Prop := classBackRow.holds Tryz.pinned (OpenSpec.ofChange classBackWrong)

/-- 'lanternlaw5.ClassReads': WHATEVER THE INPUT: true; the input reads as it did. -/
def classReadsSpec : ChangeSpec := { name := "classReads", fn := fun _ => fun
  | [d1, d2, d3] => { results := [.lit (.bool true)], args := [d1, d2, d3] }
  | _ => none }
def classReadsRow : OpenClaim := { program := "ytgmlanhhjmhmmaagreat", sum := "9a786bf73a126881b9e2a4bf3006bc6d87efea2a1caa129c0acaa88ad7f57b0c", func := "lantern/lanternlaw5.ClassReads", spec := "classReads", inPlace := ["internal/bytealg.IndexByteString"], unfollowed := true, recurses := true, apart := false }
def ClassReadsSaid : Prop := classReadsRow.holds Tryz.pinned (OpenSpec.ofChange classReadsSpec)

/-- ITS FALSE NEIGHBOUR: 'it returns false'. Refute it at one input. -/
def classReadsWrong : ChangeSpec := { name := "classReads", fn := fun _ => fun
  | [d1, d2, d3] => { results := [.lit (.bool false)], args := [d1, d2, d3] }
  | _ => none }
def ClassReadsWrongFalsely : Prop := classReadsRow.holds Tryz.pinned (OpenSpec.ofChange classReadsWrong)

/-- 'lanternlaw5.ClassTurned': WHATEVER THE INPUT: true; the input reads as it did. -/
def classTurnedSpec : ChangeSpec := { name := "classTurned", fn := fun _ => fun
  | [d1, d2, d3] => { results := [.lit (.bool true)], args := [d1, d2, d3] }
  | _ => none }
def classTurnedRow : OpenClaim := { program := "ytgmlanhhjmhmmaagreat", sum := "9a786bf73a126881b9e2a4bf3006bc6d87efea2a1caa129c0acaa88ad7f57b0c", func := "lantern/lanternlaw5.ClassTurned", spec := "classTurned", inPlace := ["internal/bytealg.IndexByteString"], unfollowed := true, recurses := true, apart := false }
def ClassTurnedSaid : Prop := classTurnedRow.holds Tryz.pinned (OpenSpec.ofChange classTurnedSpec)

/-- ITS FALSE NEIGHBOUR: 'it returns false'. Refute it at one input. -/
def classTurnedWrong : ChangeSpec := { name := "classTurned", fn := fun _ => fun
  | [d1, d2, d3] => { results := [.lit (.bool false)], args := [d1, d2, d3] }
  | _ => none }
def ClassTurnedWrongFalsely : Prop := classTurnedRow.holds Tryz.pinned (OpenSpec.ofChange classTurnedWrong)

/- THE SECOND FORM. 'bulk': how many values and letters a reading holds, each counted each time it is reached (what is shared counts as often as it is met; a slice's spare places count too). A statement '..UptoSaid' is the law's where the arguments, and the package variables that the reading takes, are together of bulk at most 1048576: NARROWER than '..Said'. Prove '..Said' where nothing that the law and all that it calls make is longer than what came in: it says more and counts as full. Else prove '..UptoSaid'. A law counts once. -/
mutual
def uptoBulk {H : Type} : DataW H → Nat
  | .lit (.string bytes) => bytes.length + 1
  | .lit _ => 1
  | .nil => 1
  | .ptr d => uptoBulk d + 1
  | .slice elems spare => uptoBulkAll elems + uptoBulkAll spare + 1
  | .agg parts => uptoBulkAll parts + 1
  | .iface _ d => uptoBulk d + 1
  | .map entries => uptoBulkEntries entries + 1
  | .held _ => 1
def uptoBulkAll {H : Type} : List (DataW H) → Nat
  | [] => 0
  | d :: r => uptoBulk d + uptoBulkAll r
def uptoBulkEntries {H : Type} : List (Lit × DataW H) → Nat
  | [] => 0
  | x :: r => uptoBulkEntry x + uptoBulkEntries r
def uptoBulkEntry {H : Type} : Lit × DataW H → Nat
  | (.string bytes, d) => bytes.length + uptoBulk d + 1
  | (_, d) => uptoBulk d + 1
 end
def uptoSmall : (H : Type) → List (DataW H) → Bool := fun _ ds => decide (uptoBulkAll ds ≤ 1048576)
def OpenSpec.upto (s : _root_.Go.ChangeSpec) : _root_.Go.OpenSpec := { _root_.Go.OpenSpec.ofChange s with cond := some uptoSmall }

/-- 'lanternlaw5.ClassBack', WHERE WHAT IT READS IS OF BULK AT MOST 1048576: true; the input reads as it did. -/
def classBackUptoRow : OpenClaim := { program := "ytgmlanhhjmhmmaagreat", sum := "9a786bf73a126881b9e2a4bf3006bc6d87efea2a1caa129c0acaa88ad7f57b0c", func := "lantern/lanternlaw5.ClassBack", spec := "classBack", inPlace := ["internal/bytealg.IndexByteString"], unfollowed := true, recurses := true, apart := false, narrowed := true }
def ClassBackUptoSaid : Prop := classBackUptoRow.holds Tryz.pinned (OpenSpec.upto classBackSpec)

/-- 'lanternlaw5.ClassReads', WHERE WHAT IT READS IS OF BULK AT MOST 1048576: true; the input reads as it did. -/
def classReadsUptoRow : OpenClaim := { program := "ytgmlanhhjmhmmaagreat", sum := "9a786bf73a126881b9e2a4bf3006bc6d87efea2a1caa129c0acaa88ad7f57b0c", func := "lantern/lanternlaw5.ClassReads", spec := "classReads", inPlace := ["internal/bytealg.IndexByteString"], unfollowed := true, recurses := true, apart := false, narrowed := true }
def ClassReadsUptoSaid : Prop := classReadsUptoRow.holds Tryz.pinned (OpenSpec.upto classReadsSpec)

/-- 'lanternlaw5.ClassTurned', WHERE WHAT IT READS IS OF BULK AT MOST 1048576: true; the input reads as it did. -/
def classTurnedUptoRow : OpenClaim := { program := "ytgmlanhhjmhmmaagreat", sum := "9a786bf73a126881b9e2a4bf3006bc6d87efea2a1caa129c0acaa88ad7f57b0c", func := "lantern/lanternlaw5.ClassTurned", spec := "classTurned", inPlace := ["internal/bytealg.IndexByteString"], unfollowed := true, recurses := true, apart := false, narrowed := true }
def ClassTurnedUptoSaid : Prop := classTurnedUptoRow.holds Tryz.pinned (OpenSpec.upto classTurnedSpec)

end Rows
end Go.Proofs.YtgmlanhhjmhmmaaGreat
