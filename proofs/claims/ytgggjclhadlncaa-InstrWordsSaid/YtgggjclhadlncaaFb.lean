/- The law of words. -/
import Derived.Test.YtgggjclhadlncaaFa
namespace Go.Proofs.Ytgggjclhadlncaa.Ev
open Go

theorem ev8 (a b : Int) : ev tab prim 8 [.int .i64 a, .int .i64 b] [] = some (.bool true, []) := by
  rw [ev_fn' tab prim (f := 8) rfl _ _ rfl]
  have hs := shapeOf_eq a
  cases ha : inR a with
  | false =>
    have hw := wordOf_out ha
    rcases inR_false ha with h | h
    · have h3 : ¬ 1 ≤ a := by omega
      simp [ev39, ev40, ev41, ha, hw, shapeOf_out ha, h3]
    · have h3 : 1 ≤ a := by omega
      have h4 : ¬ a ≤ 38 := by omega
      simp [ev39, ev40, ev41, ha, hw, shapeOf_out ha, h3, h4]
  | true =>
    have h3 : 1 ≤ a ∧ a ≤ 38 := by simpa [inR] using ha
    have hw := word_some ha
    have hq : (wordOf a == wordOf b) = (a == b) := by
      cases hb : inR b with
      | true => exact words ha hb
      | false =>
        rw [wordOf_out hb, Bool.eq_iff_iff]
        simp [hw]
        rintro rfl
        rw [ha] at hb; cases hb
    have hw' : (wordOf a).isEmpty = false := by simpa using hw
    simp [ev39, ev40, ev41, ha, hw, hw', hs, h3.1, h3.2, hq]

end Go.Proofs.Ytgggjclhadlncaa.Ev
