/-
  DERIVED. GIVEN WITH THE SEED: THE CARDS: each row of YtbdfdfhamlmodaaGreatDoorRows.lean that lists a variable, with what it lists TIED to the program's text (the seventh form; the later family's looks); each row that meets fmt, with fmt's text TOLD by the authors' own Lean function (tested against real Go, not proved from fmt's source: count such statements apart). THE CARD IS WHAT COUNTS. Prove the row's statement (the work); the ties are given (YtbdfdfhamlmodaaGreatDoorTie.lean); close each card by the builder's one call (the guide's Derived/Test/ToyasCard.lean, 'card_holds'). Laid BY PROGRAM, IN A SANDBOX (cutbox-door.mjs). By AI agents, Wed Nov 11 2026. No macro, syntax, notation, axiom, sorry.
-/
import Derived.Test.YtbdfdfhamlmodaaGreatDoorRows
import GoSem.ClaimSeven
namespace Go.Proofs.YtbdfdfhamlmodaaGreatDoor
namespace Rows

/-- THE TIED CARD OF 'laws.FnMessages'. -/
def fnMessagesCard : Claim7 := { stood := { row := fnMessagesRow, standIns := [], harness := (true, "03e87d0d2253462bd1aa85a3936df0bb2d69fd6b67d0a40557063e1f4edbbc77"), looks := true }, kinds := [], alts := [], laidByText := true, laidKinds := [.data, .data, .data, .data, .sentinel, .sentinel, .pinned], laidTests := true, laidLooks := .later }
def FnMessagesCardSaid : Prop := Claim7.holds Tryz.pinned (.plain (OpenSpec.ofChange fnMessagesSpec)) fnMessagesCard

/-- THE TIED CARD OF 'laws.FnExactRhythm'. -/
def fnExactRhythmCard : Claim7 := { stood := { row := fnExactRhythmRow, standIns := [], harness := (true, "03e87d0d2253462bd1aa85a3936df0bb2d69fd6b67d0a40557063e1f4edbbc77"), looks := true }, kinds := [], alts := [], laidByText := true, laidKinds := [.data, .data, .data, .data, .sentinel, .sentinel, .pinned], laidTests := true, laidLooks := .later }
def FnExactRhythmCardSaid : Prop := Claim7.holds Tryz.pinned (.plain (OpenSpec.ofChange fnExactRhythmSpec)) fnExactRhythmCard

/-- THE TIED CARD OF 'laws.FnExactTallyOf'. -/
def fnExactTallyOfCard : Claim7 := { stood := { row := fnExactTallyOfRow, standIns := [], harness := (true, "03e87d0d2253462bd1aa85a3936df0bb2d69fd6b67d0a40557063e1f4edbbc77"), looks := true }, kinds := [], alts := [], laidByText := true, laidKinds := [.data, .data, .data, .data, .sentinel, .sentinel, .pinned], laidTests := true, laidLooks := .later }
def FnExactTallyOfCardSaid : Prop := Claim7.holds Tryz.pinned (.plain (OpenSpec.ofChange fnExactTallyOfSpec)) fnExactTallyOfCard

/-- THE TIED CARD OF 'laws.FnExactSteady'. -/
def fnExactSteadyCard : Claim7 := { stood := { row := fnExactSteadyRow, standIns := [], harness := (true, "03e87d0d2253462bd1aa85a3936df0bb2d69fd6b67d0a40557063e1f4edbbc77"), looks := true }, kinds := [], alts := [], laidByText := true, laidKinds := [.data, .data, .data, .data, .sentinel, .sentinel, .pinned], laidTests := true, laidLooks := .later }
def FnExactSteadyCardSaid : Prop := Claim7.holds Tryz.pinned (.plain (OpenSpec.ofChange fnExactSteadySpec)) fnExactSteadyCard

/-- THE TIED CARD OF 'laws.FnExactReplay'. -/
def fnExactReplayCard : Claim7 := { stood := { row := fnExactReplayRow, standIns := [], harness := (true, "03e87d0d2253462bd1aa85a3936df0bb2d69fd6b67d0a40557063e1f4edbbc77"), looks := true }, kinds := [], alts := [], laidByText := true, laidKinds := [.data, .data, .data, .data, .sentinel, .sentinel, .pinned], laidTests := true, laidLooks := .later }
def FnExactReplayCardSaid : Prop := Claim7.holds Tryz.pinned (.plain (OpenSpec.ofChange fnExactReplaySpec)) fnExactReplayCard

/-- THE TIED CARD OF 'laws.FnExactHostsOf'. -/
def fnExactHostsOfCard : Claim7 := { stood := { row := fnExactHostsOfRow, standIns := [], harness := (true, "03e87d0d2253462bd1aa85a3936df0bb2d69fd6b67d0a40557063e1f4edbbc77"), looks := true }, kinds := [], alts := [], laidByText := true, laidKinds := [.data, .data, .data, .data, .sentinel, .sentinel, .pinned], laidTests := true, laidLooks := .later }
def FnExactHostsOfCardSaid : Prop := Claim7.holds Tryz.pinned (.plain (OpenSpec.ofChange fnExactHostsOfSpec)) fnExactHostsOfCard

/-- THE SECOND FORM's CARD OF 'laws.FnMessages'. -/
def fnMessagesUptoCard : Claim7 := { stood := { row := fnMessagesUptoRow, standIns := [], harness := (true, "03e87d0d2253462bd1aa85a3936df0bb2d69fd6b67d0a40557063e1f4edbbc77"), looks := true }, kinds := [], alts := [], laidByText := true, laidKinds := [.data, .data, .data, .data, .sentinel, .sentinel, .pinned], laidTests := true, laidLooks := .later }
def FnMessagesUptoCardSaid : Prop := Claim7.holds Tryz.pinned (.plain (OpenSpec.upto fnMessagesSpec)) fnMessagesUptoCard

/-- THE SECOND FORM's CARD OF 'laws.FnExactRhythm'. -/
def fnExactRhythmUptoCard : Claim7 := { stood := { row := fnExactRhythmUptoRow, standIns := [], harness := (true, "03e87d0d2253462bd1aa85a3936df0bb2d69fd6b67d0a40557063e1f4edbbc77"), looks := true }, kinds := [], alts := [], laidByText := true, laidKinds := [.data, .data, .data, .data, .sentinel, .sentinel, .pinned], laidTests := true, laidLooks := .later }
def FnExactRhythmUptoCardSaid : Prop := Claim7.holds Tryz.pinned (.plain (OpenSpec.upto fnExactRhythmSpec)) fnExactRhythmUptoCard

/-- THE SECOND FORM's CARD OF 'laws.FnExactTallyOf'. -/
def fnExactTallyOfUptoCard : Claim7 := { stood := { row := fnExactTallyOfUptoRow, standIns := [], harness := (true, "03e87d0d2253462bd1aa85a3936df0bb2d69fd6b67d0a40557063e1f4edbbc77"), looks := true }, kinds := [], alts := [], laidByText := true, laidKinds := [.data, .data, .data, .data, .sentinel, .sentinel, .pinned], laidTests := true, laidLooks := .later }
def FnExactTallyOfUptoCardSaid : Prop := Claim7.holds Tryz.pinned (.plain (OpenSpec.upto fnExactTallyOfSpec)) fnExactTallyOfUptoCard

/-- THE SECOND FORM's CARD OF 'laws.FnExactSteady'. -/
def fnExactSteadyUptoCard : Claim7 := { stood := { row := fnExactSteadyUptoRow, standIns := [], harness := (true, "03e87d0d2253462bd1aa85a3936df0bb2d69fd6b67d0a40557063e1f4edbbc77"), looks := true }, kinds := [], alts := [], laidByText := true, laidKinds := [.data, .data, .data, .data, .sentinel, .sentinel, .pinned], laidTests := true, laidLooks := .later }
def FnExactSteadyUptoCardSaid : Prop := Claim7.holds Tryz.pinned (.plain (OpenSpec.upto fnExactSteadySpec)) fnExactSteadyUptoCard

/-- THE SECOND FORM's CARD OF 'laws.FnExactReplay'. -/
def fnExactReplayUptoCard : Claim7 := { stood := { row := fnExactReplayUptoRow, standIns := [], harness := (true, "03e87d0d2253462bd1aa85a3936df0bb2d69fd6b67d0a40557063e1f4edbbc77"), looks := true }, kinds := [], alts := [], laidByText := true, laidKinds := [.data, .data, .data, .data, .sentinel, .sentinel, .pinned], laidTests := true, laidLooks := .later }
def FnExactReplayUptoCardSaid : Prop := Claim7.holds Tryz.pinned (.plain (OpenSpec.upto fnExactReplaySpec)) fnExactReplayUptoCard

/-- THE SECOND FORM's CARD OF 'laws.FnExactHostsOf'. -/
def fnExactHostsOfUptoCard : Claim7 := { stood := { row := fnExactHostsOfUptoRow, standIns := [], harness := (true, "03e87d0d2253462bd1aa85a3936df0bb2d69fd6b67d0a40557063e1f4edbbc77"), looks := true }, kinds := [], alts := [], laidByText := true, laidKinds := [.data, .data, .data, .data, .sentinel, .sentinel, .pinned], laidTests := true, laidLooks := .later }
def FnExactHostsOfUptoCardSaid : Prop := Claim7.holds Tryz.pinned (.plain (OpenSpec.upto fnExactHostsOfSpec)) fnExactHostsOfUptoCard
end Rows
end Go.Proofs.YtbdfdfhamlmodaaGreatDoor
