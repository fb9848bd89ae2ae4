import Derived.Test.YtpajgenngpjbaaaGreatKz
/- The law LinkOrder, at what comes. -/
namespace Go.Proofs.YtpajgenngpjbaaaGreat.Ev
open Go
set_option linter.constructorNameAsVariable false
theorem ty_row {n : Nat} {xs : List V} (h : TyC Tryz.prog (n + 1) 22 xs) : ∃ ys, xs = [.list (Tryz.prog.cellsOf 35) ys false] ∧ ys.length ≤ maxLen ∧ ∀ y ∈ ys, ∃ cs, TyC Tryz.prog n 35 cs ∧ y = .agg cs := by
  rw [TyC] at h; simp only [Tryz.underlying22] at h
  obtain ⟨ys, rfl, hl, hy⟩ := h
  refine ⟨ys, rfl, hl, fun y hm => ?_⟩
  obtain ⟨cs, h1, h2⟩ := hy y hm
  simp only [Tryz.underlying35] at h2
  exact ⟨cs, h1, h2⟩
attribute [local irreducible] TyC
theorem tyClss {xs : List V} (h : TyC Tryz.prog (6 + 1) 22 xs) : ∃ l : List Cls, xs = [.list 7 (l.map Cls.v) false] ∧ l.length ≤ maxLen ∧ ∀ c ∈ l, c.Wf := by
  obtain ⟨ys, rfl, hl, hy⟩ := ty_row (n := 6) h
  obtain ⟨l, rfl, hn, hp⟩ := row_of Cls.v (fun c => c.Wf) (ys := ys) fun y hm => by
    obtain ⟨cs, h1, rfl⟩ := hy y hm
    exact tyCls h1
  exact ⟨l, by rw [show Tryz.prog.cellsOf 35 = _ from by kernel_rfl], by omega, hp⟩
end Go.Proofs.YtpajgenngpjbaaaGreat.Ev
