/- The law ClassWrites, of what an argument of its type comes to. -/
import Derived.Test.YtgmlanhhjmhmmaaGy
namespace Go.Proofs.Ytgmlanhhjmhmmaa.Ev
open Go
attribute [local irreducible] TyC

theorem ev_lawWrites' {xs : List V} (hx : TyC Try.prog 6 26 xs) : ev tab prim 3 [.agg xs] [[], []] = some (.bool true, [[], []]) := by
  obtain ⟨a, ea, ha⟩ := tyCls hx
  rw [ea]
  exact ev_lawWrites a ha

end Go.Proofs.Ytgmlanhhjmhmmaa.Ev
