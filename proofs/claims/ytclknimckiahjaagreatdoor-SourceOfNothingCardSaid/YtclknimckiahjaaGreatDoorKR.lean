/-
  SourceOfNothing's run, by the kernel.
-/
import Derived.Test.YtclknimckiahjaaGreatDoorKA
import Derived.Test.YtclknimckiahjaaGreatDoorE25
import Derived.KernelRfl
namespace Go.Eng.K
set_option maxRecDepth 100000
def args3 : List AV := [.any (.i .i64), .agg [(.any (.i .i64)), (.any (.i .i64)), (.any (.i .i64)), (.any (.i .i64)), (.any (.i .i64)), (.any (.i .i64)), (.any (.i .i64)), (.any (.i .i64)), (.any .s), (.any .s), (.any (.i .i64)), (.any (.i .i64)), (.any (.i .i64)), (.any .s), (.any .s), (.any .s), (.any .s), (.any (.i .i64)), (.any (.i .i64)), (.any (.i .i64)), (.any .b), (.any (.i .i64)), (.any (.i .i64)), (.any (.i .i64)), (.any (.i .i64)), (.any (.i .i64)), (.any (.i .i64)), (.any (.i .i64)), (.any (.i .i64)), (.any (.i .i64)), (.any .sl), (.any (.i .i64)), (.any (.i .i64)), (.any (.i .i64)), (.any (.i .i64)), (.any .s), (.any .sl)]]
def deep : Nat → Bool := fun g => memN g []
theorem run3 : chk env deep 100000 cf3.body (aframe cf3.n args3) ⟨.nil, 0⟩ (backK cf3 isTrue) = true := by kernel_rfl
end Go.Eng.K
