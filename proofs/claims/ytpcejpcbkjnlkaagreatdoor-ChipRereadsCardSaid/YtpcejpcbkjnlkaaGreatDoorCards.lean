/-
  DERIVED. GIVEN WITH THE SEED: THE CARDS: each row of YtpcejpcbkjnlkaaGreatDoorRows.lean that lists a variable, with what it lists TIED to the program's text (the seventh form; the later family's looks); each row that meets fmt, with fmt's text TOLD by the authors' own Lean function (tested against real Go, not proved from fmt's source: count such statements apart). THE CARD IS WHAT COUNTS. Prove the row's statement (the work); the ties are given (YtpcejpcbkjnlkaaGreatDoorTie.lean); close each card by the builder's one call (the guide's Derived/Test/ToyasCard.lean, 'card_holds'). Laid BY PROGRAM, IN A SANDBOX (cutbox-door.mjs). By AI agents, Wed Nov 11 2026. No macro, syntax, notation, axiom, sorry.
-/
import Derived.Test.YtpcejpcbkjnlkaaGreatDoorRows
import GoSem.ClaimSeven
namespace Go.Proofs.YtpcejpcbkjnlkaaGreatDoor
namespace Rows

/-- THE TIED CARD OF 'weftkeep2.ChipRereads'. -/
def chipRereadsCard : Claim7 := { stood := { row := chipRereadsRow, standIns := [], harness := (true, "7d4c7920fca03554d2ce5cbe7fc1213fc1e1c8657a7b4ade7c528e68023eb0cc"), looks := true }, kinds := [], alts := [], laidByText := true, laidKinds := [.data, .data, .data, .pinned, .data, .sentinel, .sentinel], laidTests := true, laidLooks := .later }
def ChipRereadsCardSaid : Prop := Claim7.holds Tryz.pinned (.plain (OpenSpec.ofChange chipRereadsSpec)) chipRereadsCard

/-- THE SECOND FORM's CARD OF 'weftkeep2.ChipRereads'. -/
def chipRereadsUptoCard : Claim7 := { stood := { row := chipRereadsUptoRow, standIns := [], harness := (true, "7d4c7920fca03554d2ce5cbe7fc1213fc1e1c8657a7b4ade7c528e68023eb0cc"), looks := true }, kinds := [], alts := [], laidByText := true, laidKinds := [.data, .data, .data, .pinned, .data, .sentinel, .sentinel], laidTests := true, laidLooks := .later }
def ChipRereadsUptoCardSaid : Prop := Claim7.holds Tryz.pinned (.plain (OpenSpec.upto chipRereadsSpec)) chipRereadsUptoCard
end Rows
end Go.Proofs.YtpcejpcbkjnlkaaGreatDoor
