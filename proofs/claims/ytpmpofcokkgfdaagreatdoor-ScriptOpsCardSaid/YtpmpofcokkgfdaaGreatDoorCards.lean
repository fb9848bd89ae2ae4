/-
  DERIVED. GIVEN WITH THE SEED: THE CARDS: each row of YtpmpofcokkgfdaaGreatDoorRows.lean that lists a variable, with what it lists TIED to the program's text (the seventh form; the later family's looks); each row that meets fmt, with fmt's text TOLD by the authors' own Lean function (tested against real Go, not proved from fmt's source: count such statements apart). THE CARD IS WHAT COUNTS. Prove the row's statement (the work); the ties are given (YtpmpofcokkgfdaaGreatDoorTie.lean); close each card by the builder's one call (the guide's Derived/Test/ToyasCard.lean, 'card_holds'). Laid BY PROGRAM, IN A SANDBOX (cutbox-door.mjs). By AI agents, Wed Nov 11 2026. No macro, syntax, notation, axiom, sorry.
-/
import Derived.Test.YtpmpofcokkgfdaaGreatDoorRows
import GoSem.ClaimSeven
namespace Go.Proofs.YtpmpofcokkgfdaaGreatDoor
namespace Rows

/-- THE TIED CARD OF 'lanternlaw27.ScriptOps'. -/
def scriptOpsCard : Claim7 := { stood := { row := scriptOpsRow, standIns := [], harness := (true, "ec1fe4d20e6df00339d1a4a694d052c88c931a6504f20f390ea890322fe2ade9"), looks := true }, kinds := [], alts := [], laidByText := true, laidKinds := [.data, .data, .data, .data, .sentinel, .sentinel, .pinned], laidTests := true, laidLooks := .later }
def ScriptOpsCardSaid : Prop := Claim7.holds Tryz.pinned (.plain (OpenSpec.ofChange scriptOpsSpec)) scriptOpsCard

/-- THE SECOND FORM's CARD OF 'lanternlaw27.ScriptOps'. -/
def scriptOpsUptoCard : Claim7 := { stood := { row := scriptOpsUptoRow, standIns := [], harness := (true, "ec1fe4d20e6df00339d1a4a694d052c88c931a6504f20f390ea890322fe2ade9"), looks := true }, kinds := [], alts := [], laidByText := true, laidKinds := [.data, .data, .data, .data, .sentinel, .sentinel, .pinned], laidTests := true, laidLooks := .later }
def ScriptOpsUptoCardSaid : Prop := Claim7.holds Tryz.pinned (.plain (OpenSpec.upto scriptOpsSpec)) scriptOpsUptoCard
end Rows
end Go.Proofs.YtpmpofcokkgfdaaGreatDoor
