/-
  RaftOfNothing's run, by the kernel.
-/
import Derived.Test.YtdlhdgdkljkofaaGreatN6A
import Derived.Test.YtdlhdgdkljkofaaGreatE25
import Derived.KernelRfl
namespace Go.Eng.N6
set_option maxRecDepth 100000
def args7 : List AV := [.agg [.any (.i .i64), .any (.i .i64), .any .sl], .any (.i .i64), .any .sl]
theorem run7 : chk env 2000 cf7.body (aframe cf7.n args7) ⟨.nil, 0⟩ (retIs cf7 isTrue) = true := by kernel_rfl
end Go.Eng.N6
