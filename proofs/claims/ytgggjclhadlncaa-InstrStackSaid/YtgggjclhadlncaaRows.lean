/-
  No cell of these rows narrows 'for every input' (looked for: loops, veiled, ifaces, maps, wideKeys, modest, calm, conditions, laid).
  DERIVED. THE GIVEN ROWS OF THIS SEAT. 9 by the template 'for every input the law returns true; each argument reads behind the call as it read before'; 0 by the template 'total and deterministic' (their statements: YtgggjclhadlncaaTotals.lean).
  GIVEN WITH THE SEED: the statements are not yours to turn. If you find one false, say at which input.
  Laid BY PROGRAM, IN A SANDBOX (cutbox-rows.mjs): the forced cells as the released guide's own fill.sh prints them over the translation 95b64fb3f016a78a… (all of the seat's roots in one cut). By AI agents, Wed Nov 11 2026. No macro, syntax, notation, axiom, sorry.
-/
import Derived.Test.YtgggjclhadlncaaChecked
import GoSem.Claim
import GoSem.ClaimJoined
import GoSem.ClaimMapViews
import Derived.JoinedTies
import Derived.KernelRfl
namespace Go.Proofs.Ytgggjclhadlncaa
/- THE CELL 'sum', in the pinned program and in every row, IS THE sha256 OF THE DUMP (.gsa) THAT YtgggjclhadlncaaProg.lean LOADS. Nothing in Lean hashes anything: it is a label: what it is worth is what the hold of that sum in a sandbox is worth. -/
noncomputable def Try.pinned : Pinned := { name := "ytgggjclhadlncaa", sum := "95b64fb3f016a78aa0a2b09890777bc43bc12df4450221f31196374408cb950b", checked := Try.checked }
namespace Rows
def none {H : Type} : Left H := { results := [], args := [] }

/-- 'lanternlaw2.DescCounts': WHATEVER THE INPUT: true; the input reads as it did. -/
def descCountsSpec : ChangeSpec := { name := "descCounts", fn := fun _ => fun
  | [d1, d2] => { results := [.lit (.bool true)], args := [d1, d2] }
  | _ => none }
def descCountsRow : OpenClaim := { program := "ytgggjclhadlncaa", sum := "95b64fb3f016a78aa0a2b09890777bc43bc12df4450221f31196374408cb950b", func := "lantern/lanternlaw2.DescCounts", spec := "descCounts", inPlace := ["internal/bytealg.IndexByteString"], apart := false }
def DescCountsSaid : Prop := descCountsRow.holds Try.pinned (OpenSpec.ofChange descCountsSpec)

/-- ITS FALSE NEIGHBOUR: 'it returns false'. Refute it at one input. -/
def descCountsWrong : ChangeSpec := { name := "descCounts", fn := fun _ => fun
  | [d1, d2] => { results := [.lit (.bool false)], args := [d1, d2] }
  | _ => none }
def DescCountsWrongFalsely : Prop := descCountsRow.holds Try.pinned (OpenSpec.ofChange descCountsWrong)

/-- 'lanternlaw2.DescMethods': WHATEVER THE INPUT: true; the input reads as it did. -/
def descMethodsSpec : ChangeSpec := { name := "descMethods", fn := fun _ => fun
  | [d] => { results := [.lit (.bool true)], args := [d] }
  | _ => none }
def descMethodsRow : OpenClaim := { program := "ytgggjclhadlncaa", sum := "95b64fb3f016a78aa0a2b09890777bc43bc12df4450221f31196374408cb950b", func := "lantern/lanternlaw2.DescMethods", spec := "descMethods", inPlace := ["internal/bytealg.IndexByteString"], apart := false }
def DescMethodsSaid : Prop := descMethodsRow.holds Try.pinned (OpenSpec.ofChange descMethodsSpec)

/-- ITS FALSE NEIGHBOUR: 'it returns false'. Refute it at one input. -/
def descMethodsWrong : ChangeSpec := { name := "descMethods", fn := fun _ => fun
  | [d] => { results := [.lit (.bool false)], args := [d] }
  | _ => none }
def DescMethodsWrongFalsely : Prop := descMethodsRow.holds Try.pinned (OpenSpec.ofChange descMethodsWrong)

/-- 'lanternlaw2.DescKeys': WHATEVER THE INPUT: true; the input reads as it did. -/
def descKeysSpec : ChangeSpec := { name := "descKeys", fn := fun _ => fun
  | [d1, d2, d3, d4] => { results := [.lit (.bool true)], args := [d1, d2, d3, d4] }
  | _ => none }
def descKeysRow : OpenClaim := { program := "ytgggjclhadlncaa", sum := "95b64fb3f016a78aa0a2b09890777bc43bc12df4450221f31196374408cb950b", func := "lantern/lanternlaw2.DescKeys", spec := "descKeys", inPlace := ["internal/bytealg.IndexByteString"], apart := false }
def DescKeysSaid : Prop := descKeysRow.holds Try.pinned (OpenSpec.ofChange descKeysSpec)

/-- ITS FALSE NEIGHBOUR: 'it returns false'. Refute it at one input. -/
def descKeysWrong : ChangeSpec := { name := "descKeys", fn := fun _ => fun
  | [d1, d2, d3, d4] => { results := [.lit (.bool false)], args := [d1, d2, d3, d4] }
  | _ => none }
def DescKeysWrongFalsely : Prop := descKeysRow.holds Try.pinned (OpenSpec.ofChange descKeysWrong)

/-- 'lanternlaw2.DescArrays': WHATEVER THE INPUT: true; the input reads as it did. -/
def descArraysSpec : ChangeSpec := { name := "descArrays", fn := fun _ => fun
  | [d1, d2] => { results := [.lit (.bool true)], args := [d1, d2] }
  | _ => none }
def descArraysRow : OpenClaim := { program := "ytgggjclhadlncaa", sum := "95b64fb3f016a78aa0a2b09890777bc43bc12df4450221f31196374408cb950b", func := "lantern/lanternlaw2.DescArrays", spec := "descArrays", inPlace := ["internal/bytealg.IndexByteString"], apart := false }
def DescArraysSaid : Prop := descArraysRow.holds Try.pinned (OpenSpec.ofChange descArraysSpec)

/-- ITS FALSE NEIGHBOUR: 'it returns false'. Refute it at one input. -/
def descArraysWrong : ChangeSpec := { name := "descArrays", fn := fun _ => fun
  | [d1, d2] => { results := [.lit (.bool false)], args := [d1, d2] }
  | _ => none }
def DescArraysWrongFalsely : Prop := descArraysRow.holds Try.pinned (OpenSpec.ofChange descArraysWrong)

/-- 'lanternlaw2.DescAsks': WHATEVER THE INPUT: true; the input reads as it did. -/
def descAsksSpec : ChangeSpec := { name := "descAsks", fn := fun _ => fun
  | [d] => { results := [.lit (.bool true)], args := [d] }
  | _ => none }
def descAsksRow : OpenClaim := { program := "ytgggjclhadlncaa", sum := "95b64fb3f016a78aa0a2b09890777bc43bc12df4450221f31196374408cb950b", func := "lantern/lanternlaw2.DescAsks", spec := "descAsks", inPlace := ["internal/bytealg.IndexByteString"], apart := false }
def DescAsksSaid : Prop := descAsksRow.holds Try.pinned (OpenSpec.ofChange descAsksSpec)

/-- ITS FALSE NEIGHBOUR: 'it returns false'. Refute it at one input. -/
def descAsksWrong : ChangeSpec := { name := "descAsks", fn := fun _ => fun
  | [d] => { results := [.lit (.bool false)], args := [d] }
  | _ => none }
def DescAsksWrongFalsely : Prop := descAsksRow.holds Try.pinned (OpenSpec.ofChange descAsksWrong)

/-- 'lanternlaw4.InstrWords': WHATEVER THE INPUT: true; the input reads as it did. -/
def instrWordsSpec : ChangeSpec := { name := "instrWords", fn := fun _ => fun
  | [d1, d2] => { results := [.lit (.bool true)], args := [d1, d2] }
  | _ => none }
def instrWordsRow : OpenClaim := { program := "ytgggjclhadlncaa", sum := "95b64fb3f016a78aa0a2b09890777bc43bc12df4450221f31196374408cb950b", func := "lantern/lanternlaw4.InstrWords", spec := "instrWords", inPlace := ["internal/bytealg.IndexByteString"], apart := false }
def InstrWordsSaid : Prop := instrWordsRow.holds Try.pinned (OpenSpec.ofChange instrWordsSpec)

/-- ITS FALSE NEIGHBOUR: 'it returns false'. Refute it at one input. -/
def instrWordsWrong : ChangeSpec := { name := "instrWords", fn := fun _ => fun
  | [d1, d2] => { results := [.lit (.bool false)], args := [d1, d2] }
  | _ => none }
def InstrWordsWrongFalsely : Prop := instrWordsRow.holds Try.pinned (OpenSpec.ofChange instrWordsWrong)

/-- 'lanternlaw4.InstrLimits': WHATEVER THE INPUT: true; the input reads as it did. -/
def instrLimitsSpec : ChangeSpec := { name := "instrLimits", fn := fun _ => fun
  | [d1, d2, d3, d4] => { results := [.lit (.bool true)], args := [d1, d2, d3, d4] }
  | _ => none }
def instrLimitsRow : OpenClaim := { program := "ytgggjclhadlncaa", sum := "95b64fb3f016a78aa0a2b09890777bc43bc12df4450221f31196374408cb950b", func := "lantern/lanternlaw4.InstrLimits", spec := "instrLimits", inPlace := ["internal/bytealg.IndexByteString"], apart := false }
def InstrLimitsSaid : Prop := instrLimitsRow.holds Try.pinned (OpenSpec.ofChange instrLimitsSpec)

/-- ITS FALSE NEIGHBOUR: 'it returns false'. Refute it at one input. -/
def instrLimitsWrong : ChangeSpec := { name := "instrLimits", fn := fun _ => fun
  | [d1, d2, d3, d4] => { results := [.lit (.bool false)], args := [d1, d2, d3, d4] }
  | _ => none }
def InstrLimitsWrongFalsely : Prop := instrLimitsRow.holds Try.pinned (OpenSpec.ofChange instrLimitsWrong)

/-- 'lanternlaw4.InstrStack': WHATEVER THE INPUT: true; the input reads as it did. -/
def instrStackSpec : ChangeSpec := { name := "instrStack", fn := fun _ => fun
  | [d1, d2, d3] => { results := [.lit (.bool true)], args := [d1, d2, d3] }
  | _ => none }
def instrStackRow : OpenClaim := { program := "ytgggjclhadlncaa", sum := "95b64fb3f016a78aa0a2b09890777bc43bc12df4450221f31196374408cb950b", func := "lantern/lanternlaw4.InstrStack", spec := "instrStack", inPlace := ["internal/bytealg.IndexByteString"], apart := false }
def InstrStackSaid : Prop := instrStackRow.holds Try.pinned (OpenSpec.ofChange instrStackSpec)

/-- ITS FALSE NEIGHBOUR: 'it returns false'. Refute it at one input. -/
def instrStackWrong : ChangeSpec := { name := "instrStack", fn := fun _ => fun
  | [d1, d2, d3] => { results := [.lit (.bool false)], args := [d1, d2, d3] }
  | _ => none }
def InstrStackWrongFalsely : Prop := instrStackRow.holds Try.pinned (OpenSpec.ofChange instrStackWrong)

/-- 'lanternlaw4.InstrSame': WHATEVER THE INPUT: true; the input reads as it did. -/
def instrSameSpec : ChangeSpec := { name := "instrSame", fn := fun _ => fun
  | [d1, d2] => { results := [.lit (.bool true)], args := [d1, d2] }
  | _ => none }
def instrSameRow : OpenClaim := { program := "ytgggjclhadlncaa", sum := "95b64fb3f016a78aa0a2b09890777bc43bc12df4450221f31196374408cb950b", func := "lantern/lanternlaw4.InstrSame", spec := "instrSame", inPlace := ["internal/bytealg.IndexByteString"], apart := false }
def InstrSameSaid : Prop := instrSameRow.holds Try.pinned (OpenSpec.ofChange instrSameSpec)

/-- ITS FALSE NEIGHBOUR: 'it returns false'. Refute it at one input. -/
def instrSameWrong : ChangeSpec := { name := "instrSame", fn := fun _ => fun
  | [d1, d2] => { results := [.lit (.bool false)], args := [d1, d2] }
  | _ => none }
def InstrSameWrongFalsely : Prop := instrSameRow.holds Try.pinned (OpenSpec.ofChange instrSameWrong)

/- THE SECOND FORM. 'bulk': how many values and letters a reading holds, each counted each time it is reached (what is shared counts as often as it is met; a slice's spare places count too). A statement '..UptoSaid' is the law's where the arguments, and the package variables that the reading takes, are together of bulk at most 1048576: NARROWER than '..Said'. Prove '..Said' where nothing that the law and all that it calls make is longer than what came in: it says more and counts as full. Else prove '..UptoSaid'. A law counts once. -/
mutual
def uptoBulk {H : Type} : DataW H → Nat
  | .lit (.string bytes) => bytes.length + 1
  | .lit _ => 1
  | .nil => 1
  | .ptr d => uptoBulk d + 1
  | .slice elems spare => uptoBulkAll elems + uptoBulkAll spare + 1
  | .agg parts => uptoBulkAll parts + 1
  | .iface _ d => uptoBulk d + 1
  | .map entries => uptoBulkEntries entries + 1
  | .held _ => 1
def uptoBulkAll {H : Type} : List (DataW H) → Nat
  | [] => 0
  | d :: r => uptoBulk d + uptoBulkAll r
def uptoBulkEntries {H : Type} : List (Lit × DataW H) → Nat
  | [] => 0
  | x :: r => uptoBulkEntry x + uptoBulkEntries r
def uptoBulkEntry {H : Type} : Lit × DataW H → Nat
  | (.string bytes, d) => bytes.length + uptoBulk d + 1
  | (_, d) => uptoBulk d + 1
 end
def uptoSmall : (H : Type) → List (DataW H) → Bool := fun _ ds => decide (uptoBulkAll ds ≤ 1048576)
def OpenSpec.upto (s : _root_.Go.ChangeSpec) : _root_.Go.OpenSpec := { _root_.Go.OpenSpec.ofChange s with cond := some uptoSmall }

/-- 'lanternlaw2.DescCounts', WHERE WHAT IT READS IS OF BULK AT MOST 1048576: true; the input reads as it did. -/
def descCountsUptoRow : OpenClaim := { program := "ytgggjclhadlncaa", sum := "95b64fb3f016a78aa0a2b09890777bc43bc12df4450221f31196374408cb950b", func := "lantern/lanternlaw2.DescCounts", spec := "descCounts", inPlace := ["internal/bytealg.IndexByteString"], apart := false, narrowed := true }
def DescCountsUptoSaid : Prop := descCountsUptoRow.holds Try.pinned (OpenSpec.upto descCountsSpec)

/-- 'lanternlaw2.DescMethods', WHERE WHAT IT READS IS OF BULK AT MOST 1048576: true; the input reads as it did. -/
def descMethodsUptoRow : OpenClaim := { program := "ytgggjclhadlncaa", sum := "95b64fb3f016a78aa0a2b09890777bc43bc12df4450221f31196374408cb950b", func := "lantern/lanternlaw2.DescMethods", spec := "descMethods", inPlace := ["internal/bytealg.IndexByteString"], apart := false, narrowed := true }
def DescMethodsUptoSaid : Prop := descMethodsUptoRow.holds Try.pinned (OpenSpec.upto descMethodsSpec)

/-- 'lanternlaw2.DescKeys', WHERE WHAT IT READS IS OF BULK AT MOST 1048576: true; the input reads as it did. -/
def descKeysUptoRow : OpenClaim := { program := "ytgggjclhadlncaa", sum := "95b64fb3f016a78aa0a2b09890777bc43bc12df4450221f31196374408cb950b", func := "lantern/lanternlaw2.DescKeys", spec := "descKeys", inPlace := ["internal/bytealg.IndexByteString"], apart := false, narrowed := true }
def DescKeysUptoSaid : Prop := descKeysUptoRow.holds Try.pinned (OpenSpec.upto descKeysSpec)

/-- 'lanternlaw2.DescArrays', WHERE WHAT IT READS IS OF BULK AT MOST 1048576: true; the input reads as it did. -/
def descArraysUptoRow : OpenClaim := { program := "ytgggjclhadlncaa", sum := "95b64fb3f016a78aa0a2b09890777bc43bc12df4450221f31196374408cb950b", func := "lantern/lanternlaw2.DescArrays", spec := "descArrays", inPlace := ["internal/bytealg.IndexByteString"], apart := false, narrowed := true }
def DescArraysUptoSaid : Prop := descArraysUptoRow.holds Try.pinned (OpenSpec.upto descArraysSpec)

/-- 'lanternlaw2.DescAsks', WHERE WHAT IT READS IS OF BULK AT MOST 1048576: true; the input reads as it did. -/
def descAsksUptoRow : OpenClaim := { program := "ytgggjclhadlncaa", sum := "95b64fb3f016a78aa0a2b09890777bc43bc12df4450221f31196374408cb950b", func := "lantern/lanternlaw2.DescAsks", spec := "descAsks", inPlace := ["internal/bytealg.IndexByteString"], apart := false, narrowed := true }
def DescAsksUptoSaid : Prop := descAsksUptoRow.holds Try.pinned (OpenSpec.upto descAsksSpec)

/-- 'lanternlaw4.InstrWords', WHERE WHAT IT READS IS OF BULK AT MOST 1048576: true; the input reads as it did. -/
def instrWordsUptoRow : OpenClaim := { program := "ytgggjclhadlncaa", sum := "95b64fb3f016a78aa0a2b09890777bc43bc12df4450221f31196374408cb950b", func := "lantern/lanternlaw4.InstrWords", spec := "instrWords", inPlace := ["internal/bytealg.IndexByteString"], apart := false, narrowed := true }
def InstrWordsUptoSaid : Prop := instrWordsUptoRow.holds Try.pinned (OpenSpec.upto instrWordsSpec)

/-- 'lanternlaw4.InstrLimits', WHERE WHAT IT READS IS OF BULK AT MOST 1048576: true; the input reads as it did. -/
def instrLimitsUptoRow : OpenClaim := { program := "ytgggjclhadlncaa", sum := "95b64fb3f016a78aa0a2b09890777bc43bc12df4450221f31196374408cb950b", func := "lantern/lanternlaw4.InstrLimits", spec := "instrLimits", inPlace := ["internal/bytealg.IndexByteString"], apart := false, narrowed := true }
def InstrLimitsUptoSaid : Prop := instrLimitsUptoRow.holds Try.pinned (OpenSpec.upto instrLimitsSpec)

/-- 'lanternlaw4.InstrStack', WHERE WHAT IT READS IS OF BULK AT MOST 1048576: true; the input reads as it did. -/
def instrStackUptoRow : OpenClaim := { program := "ytgggjclhadlncaa", sum := "95b64fb3f016a78aa0a2b09890777bc43bc12df4450221f31196374408cb950b", func := "lantern/lanternlaw4.InstrStack", spec := "instrStack", inPlace := ["internal/bytealg.IndexByteString"], apart := false, narrowed := true }
def InstrStackUptoSaid : Prop := instrStackUptoRow.holds Try.pinned (OpenSpec.upto instrStackSpec)

/-- 'lanternlaw4.InstrSame', WHERE WHAT IT READS IS OF BULK AT MOST 1048576: true; the input reads as it did. -/
def instrSameUptoRow : OpenClaim := { program := "ytgggjclhadlncaa", sum := "95b64fb3f016a78aa0a2b09890777bc43bc12df4450221f31196374408cb950b", func := "lantern/lanternlaw4.InstrSame", spec := "instrSame", inPlace := ["internal/bytealg.IndexByteString"], apart := false, narrowed := true }
def InstrSameUptoSaid : Prop := instrSameUptoRow.holds Try.pinned (OpenSpec.upto instrSameSpec)

end Rows
end Go.Proofs.Ytgggjclhadlncaa
