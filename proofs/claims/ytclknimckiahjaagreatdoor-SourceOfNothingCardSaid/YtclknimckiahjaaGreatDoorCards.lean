/-
  DERIVED. GIVEN WITH THE SEED: THE CARDS: each row of YtclknimckiahjaaGreatDoorRows.lean that lists a variable, with what it lists TIED to the program's text (the seventh form; the later family's looks); each row that meets fmt, with fmt's text TOLD by the authors' own Lean function (tested against real Go, not proved from fmt's source: count such statements apart). THE CARD IS WHAT COUNTS. Prove the row's statement (the work); the ties are given (YtclknimckiahjaaGreatDoorTie.lean); close each card by the builder's one call (the guide's Derived/Test/ToyasCard.lean, 'card_holds'). Laid BY PROGRAM, IN A SANDBOX (cutbox-door.mjs). By AI agents, Wed Nov 11 2026. No macro, syntax, notation, axiom, sorry.
-/
import Derived.Test.YtclknimckiahjaaGreatDoorRows
import GoSem.ClaimSeven
namespace Go.Proofs.YtclknimckiahjaaGreatDoor
namespace Rows

/-- THE TIED CARD OF 'satrapylaw22.SourceOfNothing'. -/
def sourceOfNothingCard : Claim7 := { stood := { row := sourceOfNothingRow, standIns := [], harness := (true, "9f1a665409a943d70b8d660c7908e6b71793944c21206a38a36f48050749b165"), looks := true }, kinds := [], alts := [], laidByText := true, laidKinds := [.data, .data, .data], laidTests := true, laidLooks := .later }
def SourceOfNothingCardSaid : Prop := Claim7.holds Tryz.pinned (.plain (OpenSpec.ofChange sourceOfNothingSpec)) sourceOfNothingCard

/-- THE SECOND FORM's CARD OF 'satrapylaw22.SourceOfNothing'. -/
def sourceOfNothingUptoCard : Claim7 := { stood := { row := sourceOfNothingUptoRow, standIns := [], harness := (true, "9f1a665409a943d70b8d660c7908e6b71793944c21206a38a36f48050749b165"), looks := true }, kinds := [], alts := [], laidByText := true, laidKinds := [.data, .data, .data], laidTests := true, laidLooks := .later }
def SourceOfNothingUptoCardSaid : Prop := Claim7.holds Tryz.pinned (.plain (OpenSpec.upto sourceOfNothingSpec)) sourceOfNothingUptoCard
end Rows
end Go.Proofs.YtclknimckiahjaaGreatDoor
