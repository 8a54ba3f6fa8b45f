/-
  ZoneOfNothing: pieces of the run, by the kernel (part 3).
-/
import Derived.Test.YtiemcnndfhbidaaGreatDoorKS
import Derived.KernelRfl
set_option maxRecDepth 100000
namespace Go.Eng.K
theorem last17 : chk env deep 100000 cf17.body.tl.tl.tl.tl.tl.tl.tl fr7 S7 (backK cf17 isTrue) = true := by kernel_rfl
end Go.Eng.K
