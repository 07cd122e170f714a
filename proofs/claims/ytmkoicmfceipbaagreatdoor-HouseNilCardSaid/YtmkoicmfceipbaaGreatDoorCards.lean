/-
  DERIVED. GIVEN WITH THE SEED: THE CARDS: each row of YtmkoicmfceipbaaGreatDoorRows.lean that lists a variable, with what it lists TIED to the program's text (the seventh form; the later family's looks); each row that meets fmt, with fmt's text TOLD by the authors' own Lean function (tested against real Go, not proved from fmt's source: count such statements apart). THE CARD IS WHAT COUNTS. Prove the row's statement (the work); the ties are given (YtmkoicmfceipbaaGreatDoorTie.lean); close each card by the builder's one call (the guide's Derived/Test/ToyasCard.lean, 'card_holds'). Laid BY PROGRAM, IN A SANDBOX (cutbox-door.mjs). By AI agents, Wed Nov 11 2026. No macro, syntax, notation, axiom, sorry.
-/
import Derived.Test.YtmkoicmfceipbaaGreatDoorRows
import GoSem.ClaimSeven
namespace Go.Proofs.YtmkoicmfceipbaaGreatDoor
namespace Rows

/-- THE TIED CARD OF 'cubbylaw18.HouseNil'. -/
def houseNilCard : Claim7 := { stood := { row := houseNilRow, standIns := [], harness := (true, "58c9bf1cf178c66911373048fd07c421dee64f01fdc592db5d6cc2d8f2319981"), looks := true }, kinds := [], alts := [], laidByText := true, laidKinds := [.data, .data, .data, .data, .sentinel, .sentinel, .data, .data, .pinned, .pinned], laidTests := true, laidLooks := .later }
def HouseNilCardSaid : Prop := Claim7.holds Tryz.pinned (.plain (OpenSpec.ofChange houseNilSpec)) houseNilCard

/-- THE SECOND FORM's CARD OF 'cubbylaw18.HouseNil'. -/
def houseNilUptoCard : Claim7 := { stood := { row := houseNilUptoRow, standIns := [], harness := (true, "58c9bf1cf178c66911373048fd07c421dee64f01fdc592db5d6cc2d8f2319981"), looks := true }, kinds := [], alts := [], laidByText := true, laidKinds := [.data, .data, .data, .data, .sentinel, .sentinel, .data, .data, .pinned, .pinned], laidTests := true, laidLooks := .later }
def HouseNilUptoCardSaid : Prop := Claim7.holds Tryz.pinned (.plain (OpenSpec.upto houseNilSpec)) houseNilUptoCard
end Rows
end Go.Proofs.YtmkoicmfceipbaaGreatDoor
