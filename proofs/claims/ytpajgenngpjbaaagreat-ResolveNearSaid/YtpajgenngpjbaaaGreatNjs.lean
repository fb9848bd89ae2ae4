import Derived.Test.YtpajgenngpjbaaaGreatNj
import Derived.Test.YtpajgenngpjbaaaGreatKzs
/- The law ResolveNear, at what comes. -/
namespace Go.Proofs.YtpajgenngpjbaaaGreat.Ev
open Go
set_option linter.constructorNameAsVariable false
theorem ty_bools {n : Nat} {xs : List V} (h : TyC Tryz.prog (n + 1) 47 xs) : ∃ ys, xs = [.list (Tryz.prog.cellsOf 4) ys false] ∧ ∀ y ∈ ys, ∃ cs, TyC Tryz.prog n 4 cs ∧ cs = [y] := by
  rw [TyC] at h; simp only [Tryz.underlying47] at h
  obtain ⟨ys, rfl, hl, hy⟩ := h
  refine ⟨ys, rfl, fun y hm => ?_⟩
  obtain ⟨cs, h1, h2⟩ := hy y hm
  simp only [Tryz.underlying4] at h2
  exact ⟨cs, h1, h2⟩
attribute [local irreducible] TyC
/-- An argument of the type []bool. -/
theorem t47_row {xs : List V} (h : TyC Tryz.prog 6 47 xs) : ∃ l : List Bool, xs = [.list 1 (l.map V.bool) false] := by
  obtain ⟨ys, rfl, hy⟩ := ty_bools (n := 5) h
  obtain ⟨l, rfl, hn, hp⟩ := row_of V.bool (fun _ => True) (ys := ys) fun y hm => by
    obtain ⟨cs, h1, h2⟩ := hy y hm
    obtain ⟨s, rfl⟩ := tyBool (n := 4) h1
    injection h2 with h2 _
    exact ⟨s, h2.symm, trivial⟩
  exact ⟨l, by rw [show Tryz.prog.cellsOf 4 = 1 from by kernel_rfl]⟩
end Go.Proofs.YtpajgenngpjbaaaGreat.Ev
