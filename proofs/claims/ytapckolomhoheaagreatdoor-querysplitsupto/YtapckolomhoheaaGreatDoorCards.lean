/-
  DERIVED. GIVEN WITH THE SEED: THE CARDS: each row of YtapckolomhoheaaGreatDoorRows.lean that lists a variable, with what it lists TIED to the program's text (the seventh form; the later family's looks); each row that meets fmt, with fmt's text TOLD by the authors' own Lean function (tested against real Go, not proved from fmt's source: count such statements apart). THE CARD IS WHAT COUNTS. Prove the row's statement (the work); the ties are given (YtapckolomhoheaaGreatDoorTie.lean); close each card by the builder's one call (the guide's Derived/Test/ToyasCard.lean, 'card_holds'). Laid BY PROGRAM, IN A SANDBOX (cutbox-door.mjs). By AI agents, Wed Nov 11 2026. No macro, syntax, notation, axiom, sorry.
-/
import Derived.Test.YtapckolomhoheaaGreatDoorRows
import GoSem.ClaimSeven
namespace Go.Proofs.YtapckolomhoheaaGreatDoor
namespace Rows

/-- THE TIED CARD OF 'vellumlaw25.QuerySplits'. -/
def querySplitsCard : Claim7 := { stood := { row := querySplitsRow, standIns := [], harness := (true, "9e0659a5ff3bdc4415fd0398aaf1cb035cf1ba04886e1f18a8b51ab2f12ed6a6"), looks := true }, kinds := [], alts := [], laidByText := true, laidKinds := [.data, .data, .widerDeep, .widerDeep, .data, .data, .data, .data, .data, .data, .sentinel, .sentinel, .widerDeep, .widerDeep, .widerDeep, .widerDeep, .widerDeep, .widerDeep, .data, .pinned, .pinned, .pinned, .pinned], laidTests := true, laidLooks := .later }
def QuerySplitsCardSaid : Prop := Claim7.holds Tryz.pinned (.plain (OpenSpec.ofChange querySplitsSpec)) querySplitsCard

/-- THE SECOND FORM's CARD OF 'vellumlaw25.QuerySplits'. -/
def querySplitsUptoCard : Claim7 := { stood := { row := querySplitsUptoRow, standIns := [], harness := (true, "9e0659a5ff3bdc4415fd0398aaf1cb035cf1ba04886e1f18a8b51ab2f12ed6a6"), looks := true }, kinds := [], alts := [], laidByText := true, laidKinds := [.data, .data, .widerDeep, .widerDeep, .data, .data, .data, .data, .data, .data, .sentinel, .sentinel, .widerDeep, .widerDeep, .widerDeep, .widerDeep, .widerDeep, .widerDeep, .data, .pinned, .pinned, .pinned, .pinned], laidTests := true, laidLooks := .later }
def QuerySplitsUptoCardSaid : Prop := Claim7.holds Tryz.pinned (.plain (OpenSpec.upto querySplitsSpec)) querySplitsUptoCard
end Rows
end Go.Proofs.YtapckolomhoheaaGreatDoor
