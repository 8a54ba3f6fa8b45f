/-
  SourceOfNothing: the closed facts of its card.
-/
import Derived.Test.YtclknimckiahjaaGreatDoorRows
import Derived.Test.YtclknimckiahjaaGreatDoorCards
import Derived.ProofKit
import Derived.LaidMore
import Derived.JoinedOf
import Derived.KernelRfl
import Derived.Stop.Joined
import Derived.SevenTiedAt
namespace Go.Proofs.YtclknimckiahjaaGreatDoor
open Go
open Go.ChangeShapes Go.WideShapes Go.ChangeAt Go.WideMaps Go.WideElems Go.RowKit
set_option maxRecDepth 100000
theorem own : ownKnob Tryz.prog.godebug = none := by kernel_rfl
theorem laid : laidOutB Tryz.prog = true := by kernel_rfl
theorem door_met (os : Os) (args : Array Value) : laidMetH Tryz.prog Rows.sourceOfNothingRow.laid ((World.doorLaid Tryz.prog 400 os).forCall (fun _ _ => 0) ⟨#[], args, []⟩).memory :=
  laidMetH_of_parts3 (fuel := 8) (laidMet_of_run' 8 (by as_aux_lemma => kernel_rfl) (by as_aux_lemma => kernel_rfl)) (by as_aux_lemma => kernel_rfl) (by as_aux_lemma => kernel_rfl)
theorem f_wf : Rows.sourceOfNothingRow.wfByText (OpenSpec.ofChange Rows.sourceOfNothingSpec) = true := by kernel_rfl
theorem f_main : Tryz.pinned.checked.prog.mainIs = some (true, "9f1a665409a943d70b8d660c7908e6b71793944c21206a38a36f48050749b165".toList) := by kernel_rfl
theorem f_looks : true = Tryz.pinned.checked.prog.looks [] := by kernel_rfl
theorem f_goes : false = Rows.sourceOfNothingRow.goesBy Tryz.pinned.checked.prog := by kernel_rfl
theorem f_named : Tryz.pinned.checked.prog.funcNamed Rows.sourceOfNothingRow.func = some 3 := by kernel_rfl
end Go.Proofs.YtclknimckiahjaaGreatDoor
