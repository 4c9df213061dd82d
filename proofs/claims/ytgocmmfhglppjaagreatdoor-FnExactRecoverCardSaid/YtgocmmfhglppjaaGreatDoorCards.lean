/-
  DERIVED. GIVEN WITH THE SEED: THE CARDS: each row of YtgocmmfhglppjaaGreatDoorRows.lean that lists a variable, with what it lists TIED to the program's text (the seventh form; the later family's looks); each row that meets fmt, with fmt's text TOLD by the authors' own Lean function (tested against real Go, not proved from fmt's source: count such statements apart). THE CARD IS WHAT COUNTS. Prove the row's statement (the work); the ties are given (YtgocmmfhglppjaaGreatDoorTie.lean); close each card by the builder's one call (the guide's Derived/Test/ToyasCard.lean, 'card_holds'). Laid BY PROGRAM, IN A SANDBOX (cutbox-door.mjs). By AI agents, Wed Nov 11 2026. No macro, syntax, notation, axiom, sorry.
-/
import Derived.Test.YtgocmmfhglppjaaGreatDoorRows
import GoSem.ClaimSeven
namespace Go.Proofs.YtgocmmfhglppjaaGreatDoor
namespace Rows

/-- THE TIED CARD OF 'laws.FnExactPlanSnap'. -/
def fnExactPlanSnapCard : Claim7 := { stood := { row := fnExactPlanSnapRow, standIns := [], harness := (true, "d62f10c3b6d3c634eef431df7268349c7c8eb652bafdc5e5122a04f3880506ae"), looks := false }, kinds := [], alts := [], laidByText := true, laidKinds := [.data], laidTests := true, laidLooks := .later }
def FnExactPlanSnapCardSaid : Prop := Claim7.holds Tryz.pinned (.plain (OpenSpec.ofChange fnExactPlanSnapSpec)) fnExactPlanSnapCard

/-- THE TIED CARD OF 'laws.FnExactRecover'. -/
def fnExactRecoverCard : Claim7 := { stood := { row := fnExactRecoverRow, standIns := [], harness := (true, "d62f10c3b6d3c634eef431df7268349c7c8eb652bafdc5e5122a04f3880506ae"), looks := false }, kinds := [], alts := [], laidByText := true, laidKinds := [.data], laidTests := true, laidLooks := .later }
def FnExactRecoverCardSaid : Prop := Claim7.holds Tryz.pinned (.plain (OpenSpec.ofChange fnExactRecoverSpec)) fnExactRecoverCard

/-- THE SECOND FORM's CARD OF 'laws.FnExactPlanSnap'. -/
def fnExactPlanSnapUptoCard : Claim7 := { stood := { row := fnExactPlanSnapUptoRow, standIns := [], harness := (true, "d62f10c3b6d3c634eef431df7268349c7c8eb652bafdc5e5122a04f3880506ae"), looks := false }, kinds := [], alts := [], laidByText := true, laidKinds := [.data], laidTests := true, laidLooks := .later }
def FnExactPlanSnapUptoCardSaid : Prop := Claim7.holds Tryz.pinned (.plain (OpenSpec.upto fnExactPlanSnapSpec)) fnExactPlanSnapUptoCard

/-- THE SECOND FORM's CARD OF 'laws.FnExactRecover'. -/
def fnExactRecoverUptoCard : Claim7 := { stood := { row := fnExactRecoverUptoRow, standIns := [], harness := (true, "d62f10c3b6d3c634eef431df7268349c7c8eb652bafdc5e5122a04f3880506ae"), looks := false }, kinds := [], alts := [], laidByText := true, laidKinds := [.data], laidTests := true, laidLooks := .later }
def FnExactRecoverUptoCardSaid : Prop := Claim7.holds Tryz.pinned (.plain (OpenSpec.upto fnExactRecoverSpec)) fnExactRecoverUptoCard
end Rows
end Go.Proofs.YtgocmmfhglppjaaGreatDoor
