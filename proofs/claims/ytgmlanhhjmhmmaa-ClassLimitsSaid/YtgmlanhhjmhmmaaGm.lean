/- Whether a method may be: all of it. -/
import Derived.Test.YtgmlanhhjmhmmaaGl
namespace Go.Proofs.Ytgmlanhhjmhmmaa.Ev
open Go

def bareM (m : Mth) : Bool := m.st == 0 && (m.lo == 0 && (((m.code.length : Int) == 0) && ((m.hs.length : Int) == 0)))
/-- Why a method may not be. -/
def errM (m : Mth) : Int :=
  bif !nmdM m then 6 else bif !limM m then 5 else bif (m.a && (m.s || !bareM m)) || (!m.a && (m.code.length : Int) == 0) then 7 else bif m.a then 0
  else bif decide (m.lo < leastM m) then 4 else bif errC m == 0 then errH m else errC m

set_option maxHeartbeats 64000000 in
theorem ev_method (m : Mth) (hw : m.Wf) (hm : m.Small) : ev tab prim 39 [m.v] [[], []] = some (.int .i64 (errM m), [[], []]) := by
  have h1 := ev_namedM m hm
  have h2 := ev_limited m
  have h3 := ev_Least m hm
  have l0 := mcLoop0 m hw hm
  have l1 := mcLoop1 m hw hm
  unfold errM bareM
  unfold Mth.v Mth.cells at h1 h2 h3 ⊢
  unfold Mth.cells retE at l0 l1
  rw [ev_fn' tab prim (f := 39) rfl _ _ rfl]
  generalize nmdM m = nm at *
  generalize limM m = lm at *
  generalize leastM m = ls at *
  generalize errC m = ec at *
  generalize errH m = eh at *
  generalize m.a = a at *
  generalize m.s = s at *
  have hb : (m.st == 0) = false ∨ ((m.st == 0) = true ∧ (m.lo == 0) = false) ∨ ((m.st == 0) = true ∧ (m.lo == 0) = true) := by
    cases (m.st == 0) <;> cases (m.lo == 0) <;> simp
  rcases hb with e1 | ⟨e1, e2⟩ | ⟨e1, e2⟩ <;> cases e3 : ((m.code.length : Int) == 0) <;> cases e4 : ((m.hs.length : Int) == 0)
  all_goals
    cases nm
    · simp [h1, *]
    cases lm
    · simp [h1, h2, *]
    cases a
    · by_cases hl : m.lo < ls
      · simp [h1, h2, h3, hl, *]
      · cases c0 : ec == 0
        · rw [c0] at l0
          simp [h1, h2, h3, hl, *]
        · rw [c0] at l0
          cases c1 : eh == 0
          · rw [c1] at l1
            simp [h1, h2, h3, hl, *]
          · rw [c1] at l1
            have : eh = 0 := by simpa using c1
            simp [h1, h2, h3, hl, *]
    · cases s <;> simp [h1, h2, h3, *]

end Go.Proofs.Ytgmlanhhjmhmmaa.Ev
