/-
  No cell of these rows narrows 'for every input' (looked for: loops, veiled, ifaces, maps, wideKeys, modest, calm, conditions, laid).
  DERIVED. THE GIVEN ROWS OF THIS SEAT. 5 by the template 'for every input the law returns true; each argument reads behind the call as it read before'; 0 by the template 'total and deterministic' (their statements: YtpajgenngpjbaaaGreatTotals.lean).
  GIVEN WITH THE SEED: the statements are not yours to turn. If you find one false, say at which input.
  Laid BY PROGRAM, IN A SANDBOX (cutbox-rows.mjs): the forced cells as the released guide's own fill.sh prints them over the translation 8c4506901c7546c7… (all of the seat's roots in one cut). By AI agents, Wed Nov 11 2026. No macro, syntax, notation, axiom, sorry.
-/
import Derived.Test.YtpajgenngpjbaaaGreatChecked
import GoSem.Claim
import GoSem.ClaimJoined
import GoSem.ClaimMapViews
import Derived.JoinedTies
import Derived.KernelRfl
namespace Go.Proofs.YtpajgenngpjbaaaGreat
/- THE CELL 'sum', in the pinned program and in every row, IS THE sha256 OF THE DUMP (.gsa) THAT YtpajgenngpjbaaaGreatProg.lean LOADS. Nothing in Lean hashes anything: it is a label: what it is worth is what the hold of that sum in a sandbox is worth. -/
noncomputable def Tryz.pinned : Pinned := { name := "ytpajgenngpjbaaagreat", sum := "8c4506901c7546c7c01a065c415f61b9f33f1b6bf1bc250c2d650cdd2ba42e92", checked := Tryz.checked }
namespace Rows
def none {H : Type} : Left H := { results := [], args := [] }

/-- 'lanternlaw8.ResolveDispatch': WHATEVER THE INPUT: true; the input reads as it did. -/
def resolveDispatchSpec : ChangeSpec := { name := "resolveDispatch", fn := fun _ => fun
  | [d] => { results := [.lit (.bool true)], args := [d] }
  | _ => none }
def resolveDispatchRow : OpenClaim := { program := "ytpajgenngpjbaaagreat", sum := "8c4506901c7546c7c01a065c415f61b9f33f1b6bf1bc250c2d650cdd2ba42e92", func := "lantern/lanternlaw8.ResolveDispatch", spec := "resolveDispatch", inPlace := ["internal/bytealg.IndexByteString"], unfollowed := true, recurses := true, apart := false }
def ResolveDispatchSaid : Prop := resolveDispatchRow.holds Tryz.pinned (OpenSpec.ofChange resolveDispatchSpec)

/-- ITS FALSE NEIGHBOUR: 'it returns false'. Refute it at one input. -/
def resolveDispatchWrong : ChangeSpec := { name := "resolveDispatch", fn := fun _ => fun
  | [d] => { results := [.lit (.bool false)], args := [d] }
  | _ => none }
def ResolveDispatchWrongFalsely : Prop := resolveDispatchRow.holds Tryz.pinned (OpenSpec.ofChange resolveDispatchWrong)

/-- 'lanternlaw8.ResolveNear': WHATEVER THE INPUT: true; the input reads as it did. -/
def resolveNearSpec : ChangeSpec := { name := "resolveNear", fn := fun _ => fun
  | [d1, d2, d3] => { results := [.lit (.bool true)], args := [d1, d2, d3] }
  | _ => none }
def resolveNearRow : OpenClaim := { program := "ytpajgenngpjbaaagreat", sum := "8c4506901c7546c7c01a065c415f61b9f33f1b6bf1bc250c2d650cdd2ba42e92", func := "lantern/lanternlaw8.ResolveNear", spec := "resolveNear", inPlace := ["internal/bytealg.IndexByteString"], unfollowed := true, recurses := true, apart := false }
def ResolveNearSaid : Prop := resolveNearRow.holds Tryz.pinned (OpenSpec.ofChange resolveNearSpec)

/-- ITS FALSE NEIGHBOUR: 'it returns false'. Refute it at one input. -/
def resolveNearWrong : ChangeSpec := { name := "resolveNear", fn := fun _ => fun
  | [d1, d2, d3] => { results := [.lit (.bool false)], args := [d1, d2, d3] }
  | _ => none }
def ResolveNearWrongFalsely : Prop := resolveNearRow.holds Tryz.pinned (OpenSpec.ofChange resolveNearWrong)

/-- 'lanternlaw8.ResolveCalls': WHATEVER THE INPUT: true; the input reads as it did. -/
def resolveCallsSpec : ChangeSpec := { name := "resolveCalls", fn := fun _ => fun
  | [d1, d2] => { results := [.lit (.bool true)], args := [d1, d2] }
  | _ => none }
def resolveCallsRow : OpenClaim := { program := "ytpajgenngpjbaaagreat", sum := "8c4506901c7546c7c01a065c415f61b9f33f1b6bf1bc250c2d650cdd2ba42e92", func := "lantern/lanternlaw8.ResolveCalls", spec := "resolveCalls", inPlace := ["internal/bytealg.IndexByteString"], unfollowed := true, recurses := true, apart := false }
def ResolveCallsSaid : Prop := resolveCallsRow.holds Tryz.pinned (OpenSpec.ofChange resolveCallsSpec)

/-- ITS FALSE NEIGHBOUR: 'it returns false'. Refute it at one input. -/
def resolveCallsWrong : ChangeSpec := { name := "resolveCalls", fn := fun _ => fun
  | [d1, d2] => { results := [.lit (.bool false)], args := [d1, d2] }
  | _ => none }
def ResolveCallsWrongFalsely : Prop := resolveCallsRow.holds Tryz.pinned (OpenSpec.ofChange resolveCallsWrong)

/-- 'lanternlaw8.ResolveAsks': WHATEVER THE INPUT: true; the input reads as it did. -/
def resolveAsksSpec : ChangeSpec := { name := "resolveAsks", fn := fun _ => fun
  | [d1, d2, d3, d4, d5, d6] => { results := [.lit (.bool true)], args := [d1, d2, d3, d4, d5, d6] }
  | _ => none }
def resolveAsksRow : OpenClaim := { program := "ytpajgenngpjbaaagreat", sum := "8c4506901c7546c7c01a065c415f61b9f33f1b6bf1bc250c2d650cdd2ba42e92", func := "lantern/lanternlaw8.ResolveAsks", spec := "resolveAsks", inPlace := ["internal/bytealg.IndexByteString"], unfollowed := true, recurses := true, apart := false }
def ResolveAsksSaid : Prop := resolveAsksRow.holds Tryz.pinned (OpenSpec.ofChange resolveAsksSpec)

/-- ITS FALSE NEIGHBOUR: 'it returns false'. Refute it at one input. -/
def resolveAsksWrong : ChangeSpec := { name := "resolveAsks", fn := fun _ => fun
  | [d1, d2, d3, d4, d5, d6] => { results := [.lit (.bool false)], args := [d1, d2, d3, d4, d5, d6] }
  | _ => none }
def ResolveAsksWrongFalsely : Prop := resolveAsksRow.holds Tryz.pinned (OpenSpec.ofChange resolveAsksWrong)

/-- 'lanternlaw8.ResolveNothing': WHATEVER THE INPUT: true; the input reads as it did. -/
def resolveNothingSpec : ChangeSpec := { name := "resolveNothing", fn := fun _ => fun
  | [d1, d2, d3, d4] => { results := [.lit (.bool true)], args := [d1, d2, d3, d4] }
  | _ => none }
def resolveNothingRow : OpenClaim := { program := "ytpajgenngpjbaaagreat", sum := "8c4506901c7546c7c01a065c415f61b9f33f1b6bf1bc250c2d650cdd2ba42e92", func := "lantern/lanternlaw8.ResolveNothing", spec := "resolveNothing", inPlace := ["internal/bytealg.IndexByteString"], unfollowed := true, recurses := true, apart := false }
def ResolveNothingSaid : Prop := resolveNothingRow.holds Tryz.pinned (OpenSpec.ofChange resolveNothingSpec)

/-- ITS FALSE NEIGHBOUR: 'it returns false'. Refute it at one input. -/
def resolveNothingWrong : ChangeSpec := { name := "resolveNothing", fn := fun _ => fun
  | [d1, d2, d3, d4] => { results := [.lit (.bool false)], args := [d1, d2, d3, d4] }
  | _ => none }
def ResolveNothingWrongFalsely : Prop := resolveNothingRow.holds Tryz.pinned (OpenSpec.ofChange resolveNothingWrong)

/- THE SECOND FORM. 'bulk': how many values and letters a reading holds, each counted each time it is reached (what is shared counts as often as it is met; a slice's spare places count too). A statement '..UptoSaid' is the law's where the arguments, and the package variables that the reading takes, are together of bulk at most 1048576: NARROWER than '..Said'. Prove '..Said' where nothing that the law and all that it calls make is longer than what came in: it says more and counts as full. Else prove '..UptoSaid'. A law counts once. -/
mutual
def uptoBulk {H : Type} : DataW H → Nat
  | .lit (.string bytes) => bytes.length + 1
  | .lit _ => 1
  | .nil => 1
  | .ptr d => uptoBulk d + 1
  | .slice elems spare => uptoBulkAll elems + uptoBulkAll spare + 1
  | .agg parts => uptoBulkAll parts + 1
  | .iface _ d => uptoBulk d + 1
  | .map entries => uptoBulkEntries entries + 1
  | .held _ => 1
def uptoBulkAll {H : Type} : List (DataW H) → Nat
  | [] => 0
  | d :: r => uptoBulk d + uptoBulkAll r
def uptoBulkEntries {H : Type} : List (Lit × DataW H) → Nat
  | [] => 0
  | x :: r => uptoBulkEntry x + uptoBulkEntries r
def uptoBulkEntry {H : Type} : Lit × DataW H → Nat
  | (.string bytes, d) => bytes.length + uptoBulk d + 1
  | (_, d) => uptoBulk d + 1
 end
def uptoSmall : (H : Type) → List (DataW H) → Bool := fun _ ds => decide (uptoBulkAll ds ≤ 1048576)
def OpenSpec.upto (s : _root_.Go.ChangeSpec) : _root_.Go.OpenSpec := { _root_.Go.OpenSpec.ofChange s with cond := some uptoSmall }

/-- 'lanternlaw8.ResolveDispatch', WHERE WHAT IT READS IS OF BULK AT MOST 1048576: true; the input reads as it did. -/
def resolveDispatchUptoRow : OpenClaim := { program := "ytpajgenngpjbaaagreat", sum := "8c4506901c7546c7c01a065c415f61b9f33f1b6bf1bc250c2d650cdd2ba42e92", func := "lantern/lanternlaw8.ResolveDispatch", spec := "resolveDispatch", inPlace := ["internal/bytealg.IndexByteString"], unfollowed := true, recurses := true, apart := false, narrowed := true }
def ResolveDispatchUptoSaid : Prop := resolveDispatchUptoRow.holds Tryz.pinned (OpenSpec.upto resolveDispatchSpec)

/-- 'lanternlaw8.ResolveNear', WHERE WHAT IT READS IS OF BULK AT MOST 1048576: true; the input reads as it did. -/
def resolveNearUptoRow : OpenClaim := { program := "ytpajgenngpjbaaagreat", sum := "8c4506901c7546c7c01a065c415f61b9f33f1b6bf1bc250c2d650cdd2ba42e92", func := "lantern/lanternlaw8.ResolveNear", spec := "resolveNear", inPlace := ["internal/bytealg.IndexByteString"], unfollowed := true, recurses := true, apart := false, narrowed := true }
def ResolveNearUptoSaid : Prop := resolveNearUptoRow.holds Tryz.pinned (OpenSpec.upto resolveNearSpec)

/-- 'lanternlaw8.ResolveCalls', WHERE WHAT IT READS IS OF BULK AT MOST 1048576: true; the input reads as it did. -/
def resolveCallsUptoRow : OpenClaim := { program := "ytpajgenngpjbaaagreat", sum := "8c4506901c7546c7c01a065c415f61b9f33f1b6bf1bc250c2d650cdd2ba42e92", func := "lantern/lanternlaw8.ResolveCalls", spec := "resolveCalls", inPlace := ["internal/bytealg.IndexByteString"], unfollowed := true, recurses := true, apart := false, narrowed := true }
def ResolveCallsUptoSaid : Prop := resolveCallsUptoRow.holds Tryz.pinned (OpenSpec.upto resolveCallsSpec)

/-- 'lanternlaw8.ResolveAsks', WHERE WHAT IT READS IS OF BULK AT MOST 1048576: true; the input reads as it did. -/
def resolveAsksUptoRow : OpenClaim := { program := "ytpajgenngpjbaaagreat", sum := "8c4506901c7546c7c01a065c415f61b9f33f1b6bf1bc250c2d650cdd2ba42e92", func := "lantern/lanternlaw8.ResolveAsks", spec := "resolveAsks", inPlace := ["internal/bytealg.IndexByteString"], unfollowed := true, recurses := true, apart := false, narrowed := true }
def ResolveAsksUptoSaid : Prop := resolveAsksUptoRow.holds Tryz.pinned (OpenSpec.upto resolveAsksSpec)

/-- 'lanternlaw8.ResolveNothing', WHERE WHAT IT READS IS OF BULK AT MOST 1048576: true; the input reads as it did. -/
def resolveNothingUptoRow : OpenClaim := { program := "ytpajgenngpjbaaagreat", sum := "8c4506901c7546c7c01a065c415f61b9f33f1b6bf1bc250c2d650cdd2ba42e92", func := "lantern/lanternlaw8.ResolveNothing", spec := "resolveNothing", inPlace := ["internal/bytealg.IndexByteString"], unfollowed := true, recurses := true, apart := false, narrowed := true }
def ResolveNothingUptoSaid : Prop := resolveNothingUptoRow.holds Tryz.pinned (OpenSpec.upto resolveNothingSpec)

end Rows
end Go.Proofs.YtpajgenngpjbaaaGreat
