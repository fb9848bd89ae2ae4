/- The library's functions that are taken by contract: strings.IndexByte, strings.Split, strings.Join, strconv.Itoa, strconv.Atoi, strings.Trim. -/
import Derived.Test.YtpmpofcokkgfdaaGreatDoorEv13
import Derived.Test.YtpmpofcokkgfdaaGreatDoorTab
import Derived.Lib.AtoiAll
import Derived.Lib.ItoaNum
import Derived.Lib.Split
import Derived.Lib.Join
import Derived.Lib.SlTrimSet
import Derived.Lib.Strings
namespace Go.Proofs.YtpmpofcokkgfdaaGreatDoor.Ev
open Go

/-- What strconv.Atoi gives: the number, and is there an error. -/
def atoiV (s : List UInt8) : Int × Bool := match Lib.atoiAll s with
  | .ok v => (v, false)
  | .range => (Lib.atoiSat s, true)
  | _ => (0, true)

def texts : List V → Option (List (List UInt8))
  | [] => some []
  | .str s :: r => (texts r).map fun l => s :: l
  | _ :: _ => none

theorem texts_map : ∀ l : List (List UInt8), texts (l.map V.str) = some l
  | [] => rfl
  | s :: r => by simp [texts, texts_map r]

def prim : CallF := fun f xs m =>
  match f, xs with
  | 91, [.str s, .int .u8 c] => some (.int .i64 (Lib.indexByte s c.toNat.toUInt8), m)
  | 35, [.int .i64 n] => if -9223372036854775808 ≤ n ∧ n ≤ 9223372036854775807 then some (.str (Lib.itoa n), m) else none
  | 31, [.str s] => if s.length ≤ 281474976710656 then some (.tup [.int .i64 (atoiV s).1, .ifc (!(atoiV s).2)], m) else none
  | 15, [.str s, .str sep] => if s.length < 4294967281 ∧ 1 ≤ sep.length then some (.list 1 ((Lib.split s sep).map V.str) true, m) else none
  | 45, [.list 1 xs _, .str sep] => (texts xs).bind fun l => if l.length ≤ 140737488355328 ∧ (Lib.join l sep).length ≤ 140737488355328 then some (.str (Lib.join l sep), m) else none
  | 42, [.str s, .str cs] => if s.length ≤ 281474976710656 ∧ cs.length ≤ 1000 ∧ cs.all (fun b => decide (b.toNat < 128)) = true then some (.str (Lib.trimS s cs), m) else none
  | _, _ => none

end Go.Proofs.YtpmpofcokkgfdaaGreatDoor.Ev
