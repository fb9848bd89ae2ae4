import Derived.Test.YtdcgdcienckglaaGreatKz
/- The law LinkOrder, at what comes. -/
namespace Go.Proofs.YtdcgdcienckglaaGreat.Ev
open Go
set_option linter.constructorNameAsVariable false
theorem ty_row {n : Nat} {xs : List V} (h : TyC Tryz.prog (n + 1) 41 xs) : ∃ ys, xs = [.list (Tryz.prog.cellsOf 32) ys false] ∧ ys.length ≤ maxLen ∧ ∀ y ∈ ys, ∃ cs, TyC Tryz.prog n 32 cs ∧ y = .agg cs := by
  rw [TyC] at h; simp only [Tryz.underlying41] at h
  obtain ⟨ys, rfl, hl, hy⟩ := h
  refine ⟨ys, rfl, hl, fun y hm => ?_⟩
  obtain ⟨cs, h1, h2⟩ := hy y hm
  simp only [Tryz.underlying32] at h2
  exact ⟨cs, h1, h2⟩
attribute [local irreducible] TyC
theorem tyClss {xs : List V} (h : TyC Tryz.prog (6 + 1) 41 xs) : ∃ l : List Cls, xs = [.list 7 (l.map Cls.v) false] ∧ l.length ≤ maxLen ∧ ∀ c ∈ l, c.Wf := by
  obtain ⟨ys, rfl, hl, hy⟩ := ty_row (n := 6) h
  obtain ⟨l, rfl, hn, hp⟩ := row_of Cls.v (fun c => c.Wf) (ys := ys) fun y hm => by
    obtain ⟨cs, h1, rfl⟩ := hy y hm
    exact tyCls h1
  exact ⟨l, by rw [show Tryz.prog.cellsOf 32 = _ from by kernel_rfl], by omega, hp⟩
theorem ev_lawOrder' (l : List Cls) (hw : ∀ c ∈ l, c.Wf) (hl : l.length ≤ maxLen) (k : Int) : ∃ O A, ev tab prim 7 [.list 7 (l.map Cls.v) false, .int .i64 k] [[], []] = some (.bool true, [O, A]) := ev_lawOrder l hw hl k false
end Go.Proofs.YtdcgdcienckglaaGreat.Ev
