import Derived.Test.YtpajgenngpjbaaaGreatNe
/- The law ResolveNothing, at what comes. -/
namespace Go.Proofs.YtpajgenngpjbaaaGreat.Ev
open Go
set_option linter.constructorNameAsVariable false
attribute [local irreducible] TyC
theorem ev_lawNothing' (cls nm d : Nm) {xs : List V} (hx : TyC Tryz.prog 6 52 xs) : ∃ O A, ev tab prim 7 [.str cls, .str nm, .str d, .agg xs] [[], []] = some (.bool true, [O, A]) := by
  obtain ⟨x, ex, _⟩ := tyIns (n := 4) hx
  rw [ex]
  exact ev_lawNothing cls nm d x
end Go.Proofs.YtpajgenngpjbaaaGreat.Ev
