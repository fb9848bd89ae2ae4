/- The Script laws, of arguments of their types. -/
import Derived.Test.YtpmpofcokkgfdaaDoorUs
namespace Go.Proofs.YtpmpofcokkgfdaaDoor.Ev
open Go
attribute [local irreducible] TyC
set_option linter.constructorNameAsVariable false

theorem rep_str {K : Know} (b : ByteArray) : Rep K (.string b) (.str b.data.toList) := by
  have : Rep K (.string ⟨b.data.toList.toArray⟩) (.str b.data.toList) := .str _
  simpa using this
theorem ev_lawBackS' {xs : List V} (hx : TyC Tryd.prog 6 24 xs) : ev tab prim 3 [.agg xs] [[], []] = some (.bool true, [[], []]) := by
  obtain ⟨o, eo, h1, h2, h3⟩ := tyOp hx
  rw [eo]
  exact ev_lawBackS o h1 h2 h3
theorem ev_lawWordsS' (ws : List (List UInt8)) (hw : ws.length ≤ maxLen) {xs : List V} (hx : TyC Tryd.prog 6 36 xs) : ev tab prim 4 [.list 1 (ws.map V.str) false, .agg xs] [[], []] = some (.bool true, [[], []]) := by
  obtain ⟨e, ee, h1⟩ := tyEvt hx
  rw [ee]
  exact ev_lawWords ws hw e h1
end Go.Proofs.YtpmpofcokkgfdaaDoor.Ev
