/-
  DERIVED. GIVEN WITH THE SEED: THE CARDS: each row of YthiijllhonbjhaaDoorRows.lean that lists a variable, with what it lists TIED to the program's text (the seventh form; the later family's looks); each row that meets fmt, with fmt's text TOLD by the authors' own Lean function (tested against real Go, not proved from fmt's source: count such statements apart). THE CARD IS WHAT COUNTS. Prove the row's statement (the work); the ties are given (YthiijllhonbjhaaDoorTie.lean); close each card by the builder's one call (the guide's Derived/Test/ToyasCard.lean, 'card_holds'). Laid BY PROGRAM, IN A SANDBOX (cutbox-door.mjs). By AI agents, Wed Nov 11 2026. No macro, syntax, notation, axiom, sorry.
-/
import Derived.Test.YthiijllhonbjhaaDoorRows
import GoSem.ClaimSeven
namespace Go.Proofs.YthiijllhonbjhaaDoor
namespace Rows

/-- THE TIED CARD OF 'laws.FnExactRegOk'. -/
def fnExactRegOkCard : Claim7 := { stood := { row := fnExactRegOkRow, standIns := [], harness := (true, "e3035ac579f6818a3ece69dd4c9a6cdcf9cd6f73e11cf327b846a075dbcbcec9"), looks := false }, kinds := [], alts := [], laidByText := true, laidKinds := [.data], laidTests := true, laidLooks := .later }
def FnExactRegOkCardSaid : Prop := Claim7.holds Tryd.pinned (.plain (OpenSpec.ofChange fnExactRegOkSpec)) fnExactRegOkCard

/-- THE TIED CARD OF 'laws.FnExactShowReg'. -/
def fnExactShowRegCard : Claim7 := { stood := { row := fnExactShowRegRow, standIns := [], harness := (true, "e3035ac579f6818a3ece69dd4c9a6cdcf9cd6f73e11cf327b846a075dbcbcec9"), looks := false }, kinds := [], alts := [], laidByText := true, laidKinds := [.data], laidTests := true, laidLooks := .later }
def FnExactShowRegCardSaid : Prop := Claim7.holds Tryd.pinned (.plain (OpenSpec.ofChange fnExactShowRegSpec)) fnExactShowRegCard

/-- THE TIED CARD OF 'laws.FnExactReadReg'. -/
def fnExactReadRegCard : Claim7 := { stood := { row := fnExactReadRegRow, standIns := [], harness := (true, "e3035ac579f6818a3ece69dd4c9a6cdcf9cd6f73e11cf327b846a075dbcbcec9"), looks := false }, kinds := [], alts := [], laidByText := true, laidKinds := [.data], laidTests := true, laidLooks := .later }
def FnExactReadRegCardSaid : Prop := Claim7.holds Tryd.pinned (.plain (OpenSpec.ofChange fnExactReadRegSpec)) fnExactReadRegCard

/-- THE SECOND FORM's CARD OF 'laws.FnExactRegOk'. -/
def fnExactRegOkUptoCard : Claim7 := { stood := { row := fnExactRegOkUptoRow, standIns := [], harness := (true, "e3035ac579f6818a3ece69dd4c9a6cdcf9cd6f73e11cf327b846a075dbcbcec9"), looks := false }, kinds := [], alts := [], laidByText := true, laidKinds := [.data], laidTests := true, laidLooks := .later }
def FnExactRegOkUptoCardSaid : Prop := Claim7.holds Tryd.pinned (.plain (OpenSpec.upto fnExactRegOkSpec)) fnExactRegOkUptoCard

/-- THE SECOND FORM's CARD OF 'laws.FnExactShowReg'. -/
def fnExactShowRegUptoCard : Claim7 := { stood := { row := fnExactShowRegUptoRow, standIns := [], harness := (true, "e3035ac579f6818a3ece69dd4c9a6cdcf9cd6f73e11cf327b846a075dbcbcec9"), looks := false }, kinds := [], alts := [], laidByText := true, laidKinds := [.data], laidTests := true, laidLooks := .later }
def FnExactShowRegUptoCardSaid : Prop := Claim7.holds Tryd.pinned (.plain (OpenSpec.upto fnExactShowRegSpec)) fnExactShowRegUptoCard

/-- THE SECOND FORM's CARD OF 'laws.FnExactReadReg'. -/
def fnExactReadRegUptoCard : Claim7 := { stood := { row := fnExactReadRegUptoRow, standIns := [], harness := (true, "e3035ac579f6818a3ece69dd4c9a6cdcf9cd6f73e11cf327b846a075dbcbcec9"), looks := false }, kinds := [], alts := [], laidByText := true, laidKinds := [.data], laidTests := true, laidLooks := .later }
def FnExactReadRegUptoCardSaid : Prop := Claim7.holds Tryd.pinned (.plain (OpenSpec.upto fnExactReadRegSpec)) fnExactReadRegUptoCard
end Rows
end Go.Proofs.YthiijllhonbjhaaDoor
