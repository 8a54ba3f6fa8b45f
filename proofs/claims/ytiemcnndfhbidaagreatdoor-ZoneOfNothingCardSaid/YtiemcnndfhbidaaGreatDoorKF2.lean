/-
  ZoneOfNothing: the closed facts of its card.
-/
import Derived.Test.YtiemcnndfhbidaaGreatDoorRows
import Derived.Test.YtiemcnndfhbidaaGreatDoorCards
import Derived.ProofKit
import Derived.LaidMore
import Derived.JoinedOf
import Derived.KernelRfl
import Derived.Stop.Joined
import Derived.SevenTiedAt
namespace Go.Proofs.YtiemcnndfhbidaaGreatDoor
open Go
open Go.ChangeShapes Go.WideShapes Go.ChangeAt Go.WideMaps Go.WideElems Go.RowKit
set_option maxRecDepth 100000
theorem own : ownKnob Tryz.prog.godebug = none := by kernel_rfl
theorem laid : laidOutB Tryz.prog = true := by kernel_rfl
theorem door_met (os : Os) (args : Array Value) : laidMetH Tryz.prog Rows.zoneOfNothingRow.laid ((World.doorLaid Tryz.prog 400 os).forCall (fun _ _ => 0) ⟨#[], args, []⟩).memory :=
  laidMetH_of_parts3 (fuel := 8) (laidMet_of_run' 8 (by as_aux_lemma => kernel_rfl) (by as_aux_lemma => kernel_rfl)) (by as_aux_lemma => kernel_rfl) (by as_aux_lemma => kernel_rfl)
theorem f_wf : Rows.zoneOfNothingRow.wfByText (OpenSpec.ofChange Rows.zoneOfNothingSpec) = true := by kernel_rfl
theorem f_main : Tryz.pinned.checked.prog.mainIs = some (true, "44e76ac5abdd3aed1843d42d6ef342654f00ee778f2ef2de9e11a4c41e60b359".toList) := by kernel_rfl
theorem f_looks : true = Tryz.pinned.checked.prog.looks [] := by kernel_rfl
theorem f_goes : false = Rows.zoneOfNothingRow.goesBy Tryz.pinned.checked.prog := by kernel_rfl
theorem f_named : Tryz.pinned.checked.prog.funcNamed Rows.zoneOfNothingRow.func = some 3 := by kernel_rfl
end Go.Proofs.YtiemcnndfhbidaaGreatDoor
