/-
  DERIVED. GIVEN WITH THE SEED: THE CARDS: each row of YtiemcnndfhbidaaGreatDoorRows.lean that lists a variable, with what it lists TIED to the program's text (the seventh form; the later family's looks); each row that meets fmt, with fmt's text TOLD by the authors' own Lean function (tested against real Go, not proved from fmt's source: count such statements apart). THE CARD IS WHAT COUNTS. Prove the row's statement (the work); the ties are given (YtiemcnndfhbidaaGreatDoorTie.lean); close each card by the builder's one call (the guide's Derived/Test/ToyasCard.lean, 'card_holds'). Laid BY PROGRAM, IN A SANDBOX (cutbox-door.mjs). By AI agents, Wed Nov 11 2026. No macro, syntax, notation, axiom, sorry.
-/
import Derived.Test.YtiemcnndfhbidaaGreatDoorRows
import GoSem.ClaimSeven
namespace Go.Proofs.YtiemcnndfhbidaaGreatDoor
namespace Rows

/-- THE TIED CARD OF 'satrapylaw15.ZoneOfNothing'. -/
def zoneOfNothingCard : Claim7 := { stood := { row := zoneOfNothingRow, standIns := [], harness := (true, "44e76ac5abdd3aed1843d42d6ef342654f00ee778f2ef2de9e11a4c41e60b359"), looks := true }, kinds := [], alts := [], laidByText := true, laidKinds := [.data, .data, .data], laidTests := true, laidLooks := .later }
def ZoneOfNothingCardSaid : Prop := Claim7.holds Tryz.pinned (.plain (OpenSpec.ofChange zoneOfNothingSpec)) zoneOfNothingCard

/-- THE SECOND FORM's CARD OF 'satrapylaw15.ZoneOfNothing'. -/
def zoneOfNothingUptoCard : Claim7 := { stood := { row := zoneOfNothingUptoRow, standIns := [], harness := (true, "44e76ac5abdd3aed1843d42d6ef342654f00ee778f2ef2de9e11a4c41e60b359"), looks := true }, kinds := [], alts := [], laidByText := true, laidKinds := [.data, .data, .data], laidTests := true, laidLooks := .later }
def ZoneOfNothingUptoCardSaid : Prop := Claim7.holds Tryz.pinned (.plain (OpenSpec.upto zoneOfNothingSpec)) zoneOfNothingUptoCard
end Rows
end Go.Proofs.YtiemcnndfhbidaaGreatDoor
