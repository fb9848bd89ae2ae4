/- The law ClassBack, of what an argument of its type comes to. -/
import Derived.Test.YtgmlanhhjmhmmaaGreatTc
namespace Go.Proofs.YtgmlanhhjmhmmaaGreat.Ev
open Go
attribute [local irreducible] TyC

theorem ev_lawBack' {xs : List V} (hx : TyC Tryz.prog 6 26 xs) : ev tab prim 3 [.agg xs] [[], []] = some (.bool true, [[], []]) := by
  obtain ⟨a, ea, ha⟩ := tyCls hx
  rw [ea]
  exact ev_lawBack a ha

end Go.Proofs.YtgmlanhhjmhmmaaGreat.Ev
