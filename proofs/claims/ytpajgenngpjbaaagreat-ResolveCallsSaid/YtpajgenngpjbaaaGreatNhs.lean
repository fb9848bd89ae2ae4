import Derived.Test.YtpajgenngpjbaaaGreatNh
/- The law ResolveCalls, at what comes. -/
namespace Go.Proofs.YtpajgenngpjbaaaGreat.Ev
open Go
set_option linter.constructorNameAsVariable false
attribute [local irreducible] TyC
theorem ev_lawCalls' (l : List Cls) (hw : ∀ c ∈ l, c.Wf) (hl : l.length ≤ maxLen) {xs : List V} (hx : TyC Tryz.prog 6 52 xs) : ∃ O A, ev tab prim 5 [.list 7 (l.map Cls.v) false, .agg xs] [[], []] = some (.bool true, [O, A]) := by
  obtain ⟨x, ex, _⟩ := tyIns (n := 4) hx
  rw [ex]
  exact ev_lawCalls l hw hl x
end Go.Proofs.YtpajgenngpjbaaaGreat.Ev
