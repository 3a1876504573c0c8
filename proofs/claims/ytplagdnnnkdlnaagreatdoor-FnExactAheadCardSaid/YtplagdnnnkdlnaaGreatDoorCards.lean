/-
  DERIVED. GIVEN WITH THE SEED: THE CARDS: each row of YtplagdnnnkdlnaaGreatDoorRows.lean that lists a variable, with what it lists TIED to the program's text (the seventh form; the later family's looks); each row that meets fmt, with fmt's text TOLD by the authors' own Lean function (tested against real Go, not proved from fmt's source: count such statements apart). THE CARD IS WHAT COUNTS. Prove the row's statement (the work); the ties are given (YtplagdnnnkdlnaaGreatDoorTie.lean); close each card by the builder's one call (the guide's Derived/Test/ToyasCard.lean, 'card_holds'). Laid BY PROGRAM, IN A SANDBOX (cutbox-door.mjs). By AI agents, Wed Nov 11 2026. No macro, syntax, notation, axiom, sorry.
-/
import Derived.Test.YtplagdnnnkdlnaaGreatDoorRows
import GoSem.ClaimSeven
namespace Go.Proofs.YtplagdnnnkdlnaaGreatDoor
namespace Rows

/-- THE TIED CARD OF 'laws.FnExactAhead'. -/
def fnExactAheadCard : Claim7 := { stood := { row := fnExactAheadRow, standIns := [], harness := (true, "11f70710c142501309f8a28112921327f672b38b0180f62c5a5cf4356ae1fd8b"), looks := true }, kinds := [], alts := [], laidByText := true, laidKinds := [.data, .data, .data, .data, .sentinel, .sentinel, .pinned], laidTests := true, laidLooks := .later }
def FnExactAheadCardSaid : Prop := Claim7.holds Tryz.pinned (.plain (OpenSpec.ofChange fnExactAheadSpec)) fnExactAheadCard

/-- THE SECOND FORM's CARD OF 'laws.FnExactAhead'. -/
def fnExactAheadUptoCard : Claim7 := { stood := { row := fnExactAheadUptoRow, standIns := [], harness := (true, "11f70710c142501309f8a28112921327f672b38b0180f62c5a5cf4356ae1fd8b"), looks := true }, kinds := [], alts := [], laidByText := true, laidKinds := [.data, .data, .data, .data, .sentinel, .sentinel, .pinned], laidTests := true, laidLooks := .later }
def FnExactAheadUptoCardSaid : Prop := Claim7.holds Tryz.pinned (.plain (OpenSpec.upto fnExactAheadSpec)) fnExactAheadUptoCard
end Rows
end Go.Proofs.YtplagdnnnkdlnaaGreatDoor
