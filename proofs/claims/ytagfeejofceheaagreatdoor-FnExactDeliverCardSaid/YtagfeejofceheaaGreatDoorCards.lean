/-
  DERIVED. GIVEN WITH THE SEED: THE CARDS: each row of YtagfeejofceheaaGreatDoorRows.lean that lists a variable, with what it lists TIED to the program's text (the seventh form; the later family's looks); each row that meets fmt, with fmt's text TOLD by the authors' own Lean function (tested against real Go, not proved from fmt's source: count such statements apart). THE CARD IS WHAT COUNTS. Prove the row's statement (the work); the ties are given (YtagfeejofceheaaGreatDoorTie.lean); close each card by the builder's one call (the guide's Derived/Test/ToyasCard.lean, 'card_holds'). Laid BY PROGRAM, IN A SANDBOX (cutbox-door.mjs). By AI agents, Wed Nov 11 2026. No macro, syntax, notation, axiom, sorry.
-/
import Derived.Test.YtagfeejofceheaaGreatDoorRows
import GoSem.ClaimSeven
namespace Go.Proofs.YtagfeejofceheaaGreatDoor
namespace Rows

/-- THE TIED CARD OF 'laws.FnExactDeliver'. -/
def fnExactDeliverCard : Claim7 := { stood := { row := fnExactDeliverRow, standIns := [], harness := (true, "84942775e717d6eea309009f2ab1674b1335e83bb533fb9050bdbb46dc164b8e"), looks := false }, kinds := [], alts := [], laidByText := true, laidKinds := [.data, .data, .data], laidTests := true, laidLooks := .later }
def FnExactDeliverCardSaid : Prop := Claim7.holds Tryz.pinned (.plain (OpenSpec.ofChange fnExactDeliverSpec)) fnExactDeliverCard

/-- THE SECOND FORM's CARD OF 'laws.FnExactDeliver'. -/
def fnExactDeliverUptoCard : Claim7 := { stood := { row := fnExactDeliverUptoRow, standIns := [], harness := (true, "84942775e717d6eea309009f2ab1674b1335e83bb533fb9050bdbb46dc164b8e"), looks := false }, kinds := [], alts := [], laidByText := true, laidKinds := [.data, .data, .data], laidTests := true, laidLooks := .later }
def FnExactDeliverUptoCardSaid : Prop := Claim7.holds Tryz.pinned (.plain (OpenSpec.upto fnExactDeliverSpec)) fnExactDeliverUptoCard
end Rows
end Go.Proofs.YtagfeejofceheaaGreatDoor
