/-
  DERIVED. GIVEN WITH THE SEED: THE CARDS: each row of YtempdomhbfokmaaGreatDoorRows.lean that lists a variable, with what it lists TIED to the program's text (the seventh form; the later family's looks); each row that meets fmt, with fmt's text TOLD by the authors' own Lean function (tested against real Go, not proved from fmt's source: count such statements apart). THE CARD IS WHAT COUNTS. Prove the row's statement (the work); the ties are given (YtempdomhbfokmaaGreatDoorTie.lean); close each card by the builder's one call (the guide's Derived/Test/ToyasCard.lean, 'card_holds'). Laid BY PROGRAM, IN A SANDBOX (cutbox-door.mjs). By AI agents, Wed Nov 11 2026. No macro, syntax, notation, axiom, sorry.
-/
import Derived.Test.YtempdomhbfokmaaGreatDoorRows
import GoSem.ClaimSeven
namespace Go.Proofs.YtempdomhbfokmaaGreatDoor
namespace Rows

/-- THE TIED CARD OF 'weftkeep1.NumField'. -/
def numFieldCard : Claim7 := { stood := { row := numFieldRow, standIns := [], harness := (true, "190c46fafb3675f457fc080e68c6823c8b721264d63877ab0ab337a26173da22"), looks := true }, kinds := [], alts := [], laidByText := true, laidKinds := [.data, .data, .data, .data, .sentinel, .sentinel, .pinned], laidTests := true, laidLooks := .later }
def NumFieldCardSaid : Prop := Claim7.holds Tryz.pinned (.plain (OpenSpec.ofChange numFieldSpec)) numFieldCard

/-- THE TIED CARD OF 'weftkeep1.ModelSteady'. -/
def modelSteadyCard : Claim7 := { stood := { row := modelSteadyRow, standIns := [], harness := (true, "190c46fafb3675f457fc080e68c6823c8b721264d63877ab0ab337a26173da22"), looks := true }, kinds := [], alts := [], laidByText := true, laidKinds := [.data, .data, .data, .data, .pinned], laidTests := true, laidLooks := .later }
def ModelSteadyCardSaid : Prop := Claim7.holds Tryz.pinned (.plain (OpenSpec.ofChange modelSteadySpec)) modelSteadyCard

/-- THE SECOND FORM's CARD OF 'weftkeep1.NumField'. -/
def numFieldUptoCard : Claim7 := { stood := { row := numFieldUptoRow, standIns := [], harness := (true, "190c46fafb3675f457fc080e68c6823c8b721264d63877ab0ab337a26173da22"), looks := true }, kinds := [], alts := [], laidByText := true, laidKinds := [.data, .data, .data, .data, .sentinel, .sentinel, .pinned], laidTests := true, laidLooks := .later }
def NumFieldUptoCardSaid : Prop := Claim7.holds Tryz.pinned (.plain (OpenSpec.upto numFieldSpec)) numFieldUptoCard

/-- THE SECOND FORM's CARD OF 'weftkeep1.ModelSteady'. -/
def modelSteadyUptoCard : Claim7 := { stood := { row := modelSteadyUptoRow, standIns := [], harness := (true, "190c46fafb3675f457fc080e68c6823c8b721264d63877ab0ab337a26173da22"), looks := true }, kinds := [], alts := [], laidByText := true, laidKinds := [.data, .data, .data, .data, .pinned], laidTests := true, laidLooks := .later }
def ModelSteadyUptoCardSaid : Prop := Claim7.holds Tryz.pinned (.plain (OpenSpec.upto modelSteadySpec)) modelSteadyUptoCard
end Rows
end Go.Proofs.YtempdomhbfokmaaGreatDoor
