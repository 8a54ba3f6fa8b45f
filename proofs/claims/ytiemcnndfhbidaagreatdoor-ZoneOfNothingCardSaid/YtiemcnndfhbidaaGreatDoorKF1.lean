/-
  ZoneOfNothing: the closed facts of its row.
-/
import Derived.Test.YtiemcnndfhbidaaGreatDoorRows
import Derived.Test.YtiemcnndfhbidaaGreatDoorCards
import Derived.JoinedOf
import Derived.KernelRfl
import Derived.Stop.Joined
namespace Go.Proofs.YtiemcnndfhbidaaGreatDoor
open Go
theorem both {a b : Bool} (h : a = true) (k : b = true) : (a && b) = true := by rw [h, k]; rfl
set_option maxRecDepth 100000 in
set_option maxHeartbeats 40000000 in
theorem joined : joinedFacts Tryz.pinned.checked.prog 3 Tryz.f3 Rows.zoneOfNothingSpec Rows.zoneOfNothingRow = true := by
  unfold joinedFacts
  repeat' with_reducible apply both
  all_goals (as_aux_lemma => kernel_rfl)
end Go.Proofs.YtiemcnndfhbidaaGreatDoor
