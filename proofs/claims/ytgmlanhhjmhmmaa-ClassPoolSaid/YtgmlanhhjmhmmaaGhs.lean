/- The law ClassPool, of what an argument of its type comes to. -/
import Derived.Test.YtgmlanhhjmhmmaaGh
namespace Go.Proofs.Ytgmlanhhjmhmmaa.Ev
open Go
attribute [local irreducible] TyC

theorem ev_lawPool' {xs : List V} (hx : TyC Try.prog 6 26 xs) : ev tab prim 6 [.agg xs] [[], []] = some (.bool true, [[], []]) := by
  obtain ⟨a, ea, ha⟩ := tyCls hx
  rw [ea]
  exact ev_lawPool a ha

end Go.Proofs.Ytgmlanhhjmhmmaa.Ev
