/-
  ZoneOfNothing: pieces of the run, by the kernel (part 1).
-/
import Derived.Test.YtiemcnndfhbidaaGreatDoorKS
import Derived.KernelRfl
set_option maxRecDepth 100000
namespace Go.Eng.K
theorem piece0 : chk env deep 100000 cf17.body.hd fr0 S0 (endsIn fr1 S1) = true := by kernel_rfl
theorem piece1 : chk env deep 100000 cf17.body.tl.hd fr1 S1 (endsIn fr2 S2) = true := by kernel_rfl
theorem piece2 : chk env deep 100000 cf17.body.tl.tl.hd fr2 S2 (endsIn fr3 S3) = true := by kernel_rfl
theorem piece3 : chk env deep 100000 cf17.body.tl.tl.tl.hd fr3 S3 (endsIn fr4 S4) = true := by kernel_rfl
theorem piece4 : chk env deep 100000 cf17.body.tl.tl.tl.tl.hd fr4 S4 (endsIn fr5 S5) = true := by kernel_rfl
end Go.Eng.K
