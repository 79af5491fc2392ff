/-
  DERIVED. GIVEN WITH THE SEED: THE CARDS: each row of YtmdbnobbecdcoaaGreatDoorRows.lean that lists a variable, with what it lists TIED to the program's text (the seventh form; the later family's looks); each row that meets fmt, with fmt's text TOLD by the authors' own Lean function (tested against real Go, not proved from fmt's source: count such statements apart). THE CARD IS WHAT COUNTS. Prove the row's statement (the work); the ties are given (YtmdbnobbecdcoaaGreatDoorTie.lean); close each card by the builder's one call (the guide's Derived/Test/ToyasCard.lean, 'card_holds'). Laid BY PROGRAM, IN A SANDBOX (cutbox-door.mjs). By AI agents, Wed Nov 11 2026. No macro, syntax, notation, axiom, sorry.
-/
import Derived.Test.YtmdbnobbecdcoaaGreatDoorRows
import GoSem.ClaimSeven
namespace Go.Proofs.YtmdbnobbecdcoaaGreatDoor
namespace Rows

/-- THE TIED CARD OF 'armisticelaw14.ProjectKnown'. -/
def projectKnownCard : Claim7 := { stood := { row := projectKnownRow, standIns := [], harness := (true, "3aa46081188936f5f787023f8db76d4f31373bc75afe2047dbd2cbefe53e1b6d"), looks := true }, kinds := [], alts := [], laidByText := true, laidKinds := [.data, .data, .data, .data, .sentinel, .sentinel, .pinned], laidTests := true, laidLooks := .later }
def ProjectKnownCardSaid : Prop := Claim7.holds Tryz.pinned (.plain (OpenSpec.ofChange projectKnownSpec)) projectKnownCard

/-- THE SECOND FORM's CARD OF 'armisticelaw14.ProjectKnown'. -/
def projectKnownUptoCard : Claim7 := { stood := { row := projectKnownUptoRow, standIns := [], harness := (true, "3aa46081188936f5f787023f8db76d4f31373bc75afe2047dbd2cbefe53e1b6d"), looks := true }, kinds := [], alts := [], laidByText := true, laidKinds := [.data, .data, .data, .data, .sentinel, .sentinel, .pinned], laidTests := true, laidLooks := .later }
def ProjectKnownUptoCardSaid : Prop := Claim7.holds Tryz.pinned (.plain (OpenSpec.upto projectKnownSpec)) projectKnownUptoCard
end Rows
end Go.Proofs.YtmdbnobbecdcoaaGreatDoor
