/- The law ClassSame, of what an argument of its types comes to. -/
import Derived.Test.YtgmlanhhjmhmmaaGd
namespace Go.Proofs.Ytgmlanhhjmhmmaa.Ev
open Go
attribute [local irreducible] TyC

theorem ev_lawSame' {xs ys : List V} (hx : TyC Try.prog 6 26 xs) (hy : TyC Try.prog 6 26 ys) : ev tab prim 4 [.agg xs, .agg ys] [[], []] = some (.bool true, [[], []]) := by
  obtain ⟨a, ea, ha⟩ := tyCls hx
  obtain ⟨b, eb, hb⟩ := tyCls hy
  rw [ea, eb]
  exact ev_lawSame a b ha hb

end Go.Proofs.Ytgmlanhhjmhmmaa.Ev
