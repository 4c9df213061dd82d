/-
  DERIVED. GIVEN WITH THE SEED: THE CARDS: each row of YtbkcbfkehncocaaGreatDoorRows.lean that lists a variable, with what it lists TIED to the program's text (the seventh form; the later family's looks); each row that meets fmt, with fmt's text TOLD by the authors' own Lean function (tested against real Go, not proved from fmt's source: count such statements apart). THE CARD IS WHAT COUNTS. Prove the row's statement (the work); the ties are given (YtbkcbfkehncocaaGreatDoorTie.lean); close each card by the builder's one call (the guide's Derived/Test/ToyasCard.lean, 'card_holds'). Laid BY PROGRAM, IN A SANDBOX (cutbox-door.mjs). By AI agents, Wed Nov 11 2026. No macro, syntax, notation, axiom, sorry.
-/
import Derived.Test.YtbkcbfkehncocaaGreatDoorRows
import GoSem.ClaimSeven
namespace Go.Proofs.YtbkcbfkehncocaaGreatDoor
namespace Rows

/-- THE TIED CARD OF 'laws.FnExactNodeOk'. -/
def fnExactNodeOkCard : Claim7 := { stood := { row := fnExactNodeOkRow, standIns := [], harness := (true, "4801769a7a610351131ec0421fd8ba0f8d2a1c001cbef64e9771bc44025296aa"), looks := false }, kinds := [], alts := [], laidByText := true, laidKinds := [.data], laidTests := true, laidLooks := .later }
def FnExactNodeOkCardSaid : Prop := Claim7.holds Tryz.pinned (.plain (OpenSpec.ofChange fnExactNodeOkSpec)) fnExactNodeOkCard

/-- THE TIED CARD OF 'laws.FnExactNodeNew'. -/
def fnExactNodeNewCard : Claim7 := { stood := { row := fnExactNodeNewRow, standIns := [], harness := (true, "4801769a7a610351131ec0421fd8ba0f8d2a1c001cbef64e9771bc44025296aa"), looks := false }, kinds := [], alts := [], laidByText := true, laidKinds := [.data], laidTests := true, laidLooks := .later }
def FnExactNodeNewCardSaid : Prop := Claim7.holds Tryz.pinned (.plain (OpenSpec.ofChange fnExactNodeNewSpec)) fnExactNodeNewCard

/-- THE TIED CARD OF 'laws.FnExactNodeFall'. -/
def fnExactNodeFallCard : Claim7 := { stood := { row := fnExactNodeFallRow, standIns := [], harness := (true, "4801769a7a610351131ec0421fd8ba0f8d2a1c001cbef64e9771bc44025296aa"), looks := false }, kinds := [], alts := [], laidByText := true, laidKinds := [.data], laidTests := true, laidLooks := .later }
def FnExactNodeFallCardSaid : Prop := Claim7.holds Tryz.pinned (.plain (OpenSpec.ofChange fnExactNodeFallSpec)) fnExactNodeFallCard

/-- THE TIED CARD OF 'laws.FnExactNodeRise'. -/
def fnExactNodeRiseCard : Claim7 := { stood := { row := fnExactNodeRiseRow, standIns := [], harness := (true, "4801769a7a610351131ec0421fd8ba0f8d2a1c001cbef64e9771bc44025296aa"), looks := false }, kinds := [], alts := [], laidByText := true, laidKinds := [.data], laidTests := true, laidLooks := .later }
def FnExactNodeRiseCardSaid : Prop := Claim7.holds Tryz.pinned (.plain (OpenSpec.ofChange fnExactNodeRiseSpec)) fnExactNodeRiseCard

/-- THE TIED CARD OF 'laws.FnExactNodeCompact'. -/
def fnExactNodeCompactCard : Claim7 := { stood := { row := fnExactNodeCompactRow, standIns := [], harness := (true, "4801769a7a610351131ec0421fd8ba0f8d2a1c001cbef64e9771bc44025296aa"), looks := false }, kinds := [], alts := [], laidByText := true, laidKinds := [.data], laidTests := true, laidLooks := .later }
def FnExactNodeCompactCardSaid : Prop := Claim7.holds Tryz.pinned (.plain (OpenSpec.ofChange fnExactNodeCompactSpec)) fnExactNodeCompactCard

/-- THE SECOND FORM's CARD OF 'laws.FnExactNodeOk'. -/
def fnExactNodeOkUptoCard : Claim7 := { stood := { row := fnExactNodeOkUptoRow, standIns := [], harness := (true, "4801769a7a610351131ec0421fd8ba0f8d2a1c001cbef64e9771bc44025296aa"), looks := false }, kinds := [], alts := [], laidByText := true, laidKinds := [.data], laidTests := true, laidLooks := .later }
def FnExactNodeOkUptoCardSaid : Prop := Claim7.holds Tryz.pinned (.plain (OpenSpec.upto fnExactNodeOkSpec)) fnExactNodeOkUptoCard

/-- THE SECOND FORM's CARD OF 'laws.FnExactNodeNew'. -/
def fnExactNodeNewUptoCard : Claim7 := { stood := { row := fnExactNodeNewUptoRow, standIns := [], harness := (true, "4801769a7a610351131ec0421fd8ba0f8d2a1c001cbef64e9771bc44025296aa"), looks := false }, kinds := [], alts := [], laidByText := true, laidKinds := [.data], laidTests := true, laidLooks := .later }
def FnExactNodeNewUptoCardSaid : Prop := Claim7.holds Tryz.pinned (.plain (OpenSpec.upto fnExactNodeNewSpec)) fnExactNodeNewUptoCard

/-- THE SECOND FORM's CARD OF 'laws.FnExactNodeFall'. -/
def fnExactNodeFallUptoCard : Claim7 := { stood := { row := fnExactNodeFallUptoRow, standIns := [], harness := (true, "4801769a7a610351131ec0421fd8ba0f8d2a1c001cbef64e9771bc44025296aa"), looks := false }, kinds := [], alts := [], laidByText := true, laidKinds := [.data], laidTests := true, laidLooks := .later }
def FnExactNodeFallUptoCardSaid : Prop := Claim7.holds Tryz.pinned (.plain (OpenSpec.upto fnExactNodeFallSpec)) fnExactNodeFallUptoCard

/-- THE SECOND FORM's CARD OF 'laws.FnExactNodeRise'. -/
def fnExactNodeRiseUptoCard : Claim7 := { stood := { row := fnExactNodeRiseUptoRow, standIns := [], harness := (true, "4801769a7a610351131ec0421fd8ba0f8d2a1c001cbef64e9771bc44025296aa"), looks := false }, kinds := [], alts := [], laidByText := true, laidKinds := [.data], laidTests := true, laidLooks := .later }
def FnExactNodeRiseUptoCardSaid : Prop := Claim7.holds Tryz.pinned (.plain (OpenSpec.upto fnExactNodeRiseSpec)) fnExactNodeRiseUptoCard

/-- THE SECOND FORM's CARD OF 'laws.FnExactNodeCompact'. -/
def fnExactNodeCompactUptoCard : Claim7 := { stood := { row := fnExactNodeCompactUptoRow, standIns := [], harness := (true, "4801769a7a610351131ec0421fd8ba0f8d2a1c001cbef64e9771bc44025296aa"), looks := false }, kinds := [], alts := [], laidByText := true, laidKinds := [.data], laidTests := true, laidLooks := .later }
def FnExactNodeCompactUptoCardSaid : Prop := Claim7.holds Tryz.pinned (.plain (OpenSpec.upto fnExactNodeCompactSpec)) fnExactNodeCompactUptoCard
end Rows
end Go.Proofs.YtbkcbfkehncocaaGreatDoor
