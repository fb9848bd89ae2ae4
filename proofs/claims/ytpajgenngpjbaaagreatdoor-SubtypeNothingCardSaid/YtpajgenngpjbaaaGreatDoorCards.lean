/-
  DERIVED. GIVEN WITH THE SEED: THE CARDS: each row of YtpajgenngpjbaaaGreatDoorRows.lean that lists a variable, with what it lists TIED to the program's text (the seventh form; the later family's looks); each row that meets fmt, with fmt's text TOLD by the authors' own Lean function (tested against real Go, not proved from fmt's source: count such statements apart). THE CARD IS WHAT COUNTS. Prove the row's statement (the work); the ties are given (YtpajgenngpjbaaaGreatDoorTie.lean); close each card by the builder's one call (the guide's Derived/Test/ToyasCard.lean, 'card_holds'). Laid BY PROGRAM, IN A SANDBOX (cutbox-door.mjs). By AI agents, Wed Nov 11 2026. No macro, syntax, notation, axiom, sorry.
-/
import Derived.Test.YtpajgenngpjbaaaGreatDoorRows
import GoSem.ClaimSeven
namespace Go.Proofs.YtpajgenngpjbaaaGreatDoor
namespace Rows

/-- THE TIED CARD OF 'lanternlaw7.SubtypeAsks'. -/
def subtypeAsksCard : Claim7 := { stood := { row := subtypeAsksRow, standIns := [], harness := (true, "481e6bf862b47a5f64a1dc597b7996454f6f4a4c7b99adda597afe1c5f493e05"), looks := false }, kinds := [], alts := [], laidByText := true, laidKinds := [.data, .pinned], laidTests := true, laidLooks := .later }
def SubtypeAsksCardSaid : Prop := Claim7.holds Tryz.pinned (.plain (OpenSpec.ofChange subtypeAsksSpec)) subtypeAsksCard

/-- THE TIED CARD OF 'lanternlaw7.SubtypeOrder'. -/
def subtypeOrderCard : Claim7 := { stood := { row := subtypeOrderRow, standIns := [], harness := (true, "481e6bf862b47a5f64a1dc597b7996454f6f4a4c7b99adda597afe1c5f493e05"), looks := false }, kinds := [], alts := [], laidByText := true, laidKinds := [.data, .pinned], laidTests := true, laidLooks := .later }
def SubtypeOrderCardSaid : Prop := Claim7.holds Tryz.pinned (.plain (OpenSpec.ofChange subtypeOrderSpec)) subtypeOrderCard

/-- THE TIED CARD OF 'lanternlaw7.SubtypeMerge'. -/
def subtypeMergeCard : Claim7 := { stood := { row := subtypeMergeRow, standIns := [], harness := (true, "481e6bf862b47a5f64a1dc597b7996454f6f4a4c7b99adda597afe1c5f493e05"), looks := false }, kinds := [], alts := [], laidByText := true, laidKinds := [.data, .pinned], laidTests := true, laidLooks := .later }
def SubtypeMergeCardSaid : Prop := Claim7.holds Tryz.pinned (.plain (OpenSpec.ofChange subtypeMergeSpec)) subtypeMergeCard

/-- THE TIED CARD OF 'lanternlaw7.SubtypeArrays'. -/
def subtypeArraysCard : Claim7 := { stood := { row := subtypeArraysRow, standIns := [], harness := (true, "481e6bf862b47a5f64a1dc597b7996454f6f4a4c7b99adda597afe1c5f493e05"), looks := false }, kinds := [], alts := [], laidByText := true, laidKinds := [.data, .pinned], laidTests := true, laidLooks := .later }
def SubtypeArraysCardSaid : Prop := Claim7.holds Tryz.pinned (.plain (OpenSpec.ofChange subtypeArraysSpec)) subtypeArraysCard

/-- THE TIED CARD OF 'lanternlaw7.SubtypeNothing'. -/
def subtypeNothingCard : Claim7 := { stood := { row := subtypeNothingRow, standIns := [], harness := (true, "481e6bf862b47a5f64a1dc597b7996454f6f4a4c7b99adda597afe1c5f493e05"), looks := false }, kinds := [], alts := [], laidByText := true, laidKinds := [.data, .pinned], laidTests := true, laidLooks := .later }
def SubtypeNothingCardSaid : Prop := Claim7.holds Tryz.pinned (.plain (OpenSpec.ofChange subtypeNothingSpec)) subtypeNothingCard

/-- THE TIED CARD OF 'lanternlaw7.SubtypeTree'. -/
def subtypeTreeCard : Claim7 := { stood := { row := subtypeTreeRow, standIns := [], harness := (true, "481e6bf862b47a5f64a1dc597b7996454f6f4a4c7b99adda597afe1c5f493e05"), looks := false }, kinds := [], alts := [], laidByText := true, laidKinds := [.data, .pinned], laidTests := true, laidLooks := .later }
def SubtypeTreeCardSaid : Prop := Claim7.holds Tryz.pinned (.plain (OpenSpec.ofChange subtypeTreeSpec)) subtypeTreeCard

/-- THE SECOND FORM's CARD OF 'lanternlaw7.SubtypeAsks'. -/
def subtypeAsksUptoCard : Claim7 := { stood := { row := subtypeAsksUptoRow, standIns := [], harness := (true, "481e6bf862b47a5f64a1dc597b7996454f6f4a4c7b99adda597afe1c5f493e05"), looks := false }, kinds := [], alts := [], laidByText := true, laidKinds := [.data, .pinned], laidTests := true, laidLooks := .later }
def SubtypeAsksUptoCardSaid : Prop := Claim7.holds Tryz.pinned (.plain (OpenSpec.upto subtypeAsksSpec)) subtypeAsksUptoCard

/-- THE SECOND FORM's CARD OF 'lanternlaw7.SubtypeOrder'. -/
def subtypeOrderUptoCard : Claim7 := { stood := { row := subtypeOrderUptoRow, standIns := [], harness := (true, "481e6bf862b47a5f64a1dc597b7996454f6f4a4c7b99adda597afe1c5f493e05"), looks := false }, kinds := [], alts := [], laidByText := true, laidKinds := [.data, .pinned], laidTests := true, laidLooks := .later }
def SubtypeOrderUptoCardSaid : Prop := Claim7.holds Tryz.pinned (.plain (OpenSpec.upto subtypeOrderSpec)) subtypeOrderUptoCard

/-- THE SECOND FORM's CARD OF 'lanternlaw7.SubtypeMerge'. -/
def subtypeMergeUptoCard : Claim7 := { stood := { row := subtypeMergeUptoRow, standIns := [], harness := (true, "481e6bf862b47a5f64a1dc597b7996454f6f4a4c7b99adda597afe1c5f493e05"), looks := false }, kinds := [], alts := [], laidByText := true, laidKinds := [.data, .pinned], laidTests := true, laidLooks := .later }
def SubtypeMergeUptoCardSaid : Prop := Claim7.holds Tryz.pinned (.plain (OpenSpec.upto subtypeMergeSpec)) subtypeMergeUptoCard

/-- THE SECOND FORM's CARD OF 'lanternlaw7.SubtypeArrays'. -/
def subtypeArraysUptoCard : Claim7 := { stood := { row := subtypeArraysUptoRow, standIns := [], harness := (true, "481e6bf862b47a5f64a1dc597b7996454f6f4a4c7b99adda597afe1c5f493e05"), looks := false }, kinds := [], alts := [], laidByText := true, laidKinds := [.data, .pinned], laidTests := true, laidLooks := .later }
def SubtypeArraysUptoCardSaid : Prop := Claim7.holds Tryz.pinned (.plain (OpenSpec.upto subtypeArraysSpec)) subtypeArraysUptoCard

/-- THE SECOND FORM's CARD OF 'lanternlaw7.SubtypeNothing'. -/
def subtypeNothingUptoCard : Claim7 := { stood := { row := subtypeNothingUptoRow, standIns := [], harness := (true, "481e6bf862b47a5f64a1dc597b7996454f6f4a4c7b99adda597afe1c5f493e05"), looks := false }, kinds := [], alts := [], laidByText := true, laidKinds := [.data, .pinned], laidTests := true, laidLooks := .later }
def SubtypeNothingUptoCardSaid : Prop := Claim7.holds Tryz.pinned (.plain (OpenSpec.upto subtypeNothingSpec)) subtypeNothingUptoCard

/-- THE SECOND FORM's CARD OF 'lanternlaw7.SubtypeTree'. -/
def subtypeTreeUptoCard : Claim7 := { stood := { row := subtypeTreeUptoRow, standIns := [], harness := (true, "481e6bf862b47a5f64a1dc597b7996454f6f4a4c7b99adda597afe1c5f493e05"), looks := false }, kinds := [], alts := [], laidByText := true, laidKinds := [.data, .pinned], laidTests := true, laidLooks := .later }
def SubtypeTreeUptoCardSaid : Prop := Claim7.holds Tryz.pinned (.plain (OpenSpec.upto subtypeTreeSpec)) subtypeTreeUptoCard
end Rows
end Go.Proofs.YtpajgenngpjbaaaGreatDoor
