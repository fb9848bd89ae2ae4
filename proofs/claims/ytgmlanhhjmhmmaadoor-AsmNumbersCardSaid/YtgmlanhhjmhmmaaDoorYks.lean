/- The Asm laws, of what arguments of their types come to. -/
import Derived.Test.YtgmlanhhjmhmmaaDoorYm
namespace Go.Proofs.YtgmlanhhjmhmmaaDoor.Ev
open Go
attribute [local irreducible] TyC
set_option linter.constructorNameAsVariable false

theorem rep_str {K : Know} (b : ByteArray) : Rep K (.string b) (.str b.data.toList) := by
  have : Rep K (.string ⟨b.data.toList.toArray⟩) (.str b.data.toList) := .str _
  simpa using this

theorem ev_lawLines' {xs : List V} (hx : TyC Tryd.prog 6 23 xs) (s : List UInt8) : ev tab prim 3 [.agg xs, .str s] [[], []] = some (.bool true, [[], []]) := by
  obtain ⟨a, ea, ha⟩ := tyIns hx
  rw [ea]
  exact ev_lawLines a ha.1 s
theorem ev_lawBack' {xs : List V} (hx : TyC Tryd.prog 6 23 xs) : ev tab prim 4 [.agg xs] [[], []] = some (.bool true, [[], []]) := by
  obtain ⟨a, ea, ha⟩ := tyIns hx
  rw [ea]
  exact ev_lawAsmBack a ha.1
theorem ev_lawNumbers' (n : Int) (hn : (Lit.int .i64 n).wf = true) (how : Int) : ev tab prim 5 [.int .i64 n, .int .i64 how] [[], []] = some (.bool true, [[], []]) := by
  have e1 : IntKind.i64.min = -9223372036854775808 := rfl
  have e2 : IntKind.i64.max = 9223372036854775807 := rfl
  simp [Lit.wf, e1, e2] at hn
  exact ev_lawNumbers n how hn

end Go.Proofs.YtgmlanhhjmhmmaaDoor.Ev
