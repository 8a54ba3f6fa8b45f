/-
  ZoneOfNothing: pieces of the run, by the kernel (part 2).
-/
import Derived.Test.YtiemcnndfhbidaaGreatDoorKS
import Derived.KernelRfl
set_option maxRecDepth 100000
namespace Go.Eng.K
theorem piece5 : chk env deep 100000 cf17.body.tl.tl.tl.tl.tl.hd fr5 S5 (endsIn fr6 S6) = true := by kernel_rfl
theorem piece6 : chk env deep 100000 cf17.body.tl.tl.tl.tl.tl.tl.hd fr6 S6 (endsIn fr7 S7) = true := by kernel_rfl
end Go.Eng.K
