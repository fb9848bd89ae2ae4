/- Whether a method may be, as the document tells it. -/
import Derived.Test.YtgmlanhhjmhmmaaGn
namespace Go.Proofs.Ytgmlanhhjmhmmaa.Ev
open Go

set_option maxHeartbeats 64000000 in
theorem ev_checkMethod_bad (m : Mth) (hm : m.Small) (hb : nmdM m = false) : ev tab prim 42 [m.v] [[], []] = some (.int .i64 6, [[], []]) := by
  have hM := ev66 m.d (by have := hm.d; omega)
  rw [methV_eq] at hM
  have hN := ev67 m.n (by have := hm.n; omega)
  unfold nmdM clinitN initN at hb
  unfold Mth.v Mth.cells
  rw [ev_fn' tab prim (f := 42) rfl _ _ rfl]
  have hk : methOk m.d = true ∨ methOk m.d = false := by cases methOk m.d <;> simp
  generalize mnameOk m.n = nn at *
  cases nn
  · simp [hM, hN]
  rcases hk with h | h <;> rw [h] at hM hb
  · cases e1 : m.n == [60, 99, 108, 105, 110, 105, 116, 62] <;> rw [e1] at hb
    · cases e2 : m.n == [60, 105, 110, 105, 116, 62] <;> rw [e2] at hb
      · simp at hb
      · cases e3 : m.s
        · cases e4 : m.a
          · cases e5 : mres m.d == [86]
            · simp [hM, hN, e1, e2, e5]
            · rw [e3, e4, e5] at hb; simp at hb
          · simp [hM, hN, e1, e2]
        · simp [hM, hN, e1, e2]
    · cases e3 : m.s
      · simp [hM, hN, e1]
      · cases e4 : m.d == [40, 41, 86]
        · simp [hM, hN, e1, e4]
        · rw [e3, e4] at hb; simp at hb
  · simp [hM, hN]

end Go.Proofs.Ytgmlanhhjmhmmaa.Ev
