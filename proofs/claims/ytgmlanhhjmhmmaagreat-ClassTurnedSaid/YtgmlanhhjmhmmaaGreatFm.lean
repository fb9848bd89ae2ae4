/- The law of texts that are asked of. -/
import Derived.Test.YtgmlanhhjmhmmaaGreatFl
namespace Go.Proofs.YtgmlanhhjmhmmaaGreat.Ev
open Go

def classV (s : List UInt8) : List UInt8 := match s with
  | 76 :: r => if typeOk (76 :: r) = true then r.take (r.length - 1) else []
  | _ => []
theorem typeOk_len {r : List UInt8} (h : typeOk (76 :: r) = true) : 1 ≤ r.length := by
  unfold typeOk at h
  cases r with
  | nil => revert h; decide
  | cons a r => simp

theorem rep_str {K : Know} (s : ByteArray) : Rep K (.string s) (.str s.data.toList) := by
  obtain ⟨d⟩ := s
  exact .str d.toList

theorem elemV_eq (s : List UInt8) : ∃ a b, elemV s = .tup [.str a, .bool b] := by
  unfold elemV
  split
  · split <;> exact ⟨_, _, rfl⟩
  · exact ⟨_, _, rfl⟩

end Go.Proofs.YtgmlanhhjmhmmaaGreat.Ev
