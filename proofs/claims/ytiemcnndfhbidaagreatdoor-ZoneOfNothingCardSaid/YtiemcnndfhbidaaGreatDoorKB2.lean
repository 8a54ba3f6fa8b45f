/-
  Each compiled function is the program's (part 2 of 4).
-/
import Derived.Test.YtiemcnndfhbidaaGreatDoorKA
import Derived.Test.YtiemcnndfhbidaaGreatDoorE25
import Derived.Test.YtiemcnndfhbidaaGreatDoorProg
import Derived.KernelRfl
set_option maxRecDepth 100000
namespace Go.Eng.K
open Go.Proofs
theorem good51 : FnOk Tryz.prog 51 cf51 := ⟨Tryz.f51, Tryz.func51, by kernel_rfl, by kernel_rfl⟩
theorem good52 : FnOk Tryz.prog 52 cf52 := ⟨Tryz.f52, Tryz.func52, by kernel_rfl, by kernel_rfl⟩
theorem good53 : FnOk Tryz.prog 53 cf53 := ⟨Tryz.f53, Tryz.func53, by kernel_rfl, by kernel_rfl⟩
theorem good54 : FnOk Tryz.prog 54 cf54 := ⟨Tryz.f54, Tryz.func54, by kernel_rfl, by kernel_rfl⟩
theorem good55 : FnOk Tryz.prog 55 cf55 := ⟨Tryz.f55, Tryz.func55, by kernel_rfl, by kernel_rfl⟩
theorem good56 : FnOk Tryz.prog 56 cf56 := ⟨Tryz.f56, Tryz.func56, by kernel_rfl, by kernel_rfl⟩
theorem good57 : FnOk Tryz.prog 57 cf57 := ⟨Tryz.f57, Tryz.func57, by kernel_rfl, by kernel_rfl⟩
theorem good58 : FnOk Tryz.prog 58 cf58 := ⟨Tryz.f58, Tryz.func58, by kernel_rfl, by kernel_rfl⟩
theorem good65 : FnOk Tryz.prog 65 cf65 := ⟨Tryz.f65, Tryz.func65, by kernel_rfl, by kernel_rfl⟩
theorem good66 : FnOk Tryz.prog 66 cf66 := ⟨Tryz.f66, Tryz.func66, by kernel_rfl, by kernel_rfl⟩
theorem good67 : FnOk Tryz.prog 67 cf67 := ⟨Tryz.f67, Tryz.func67, by kernel_rfl, by kernel_rfl⟩
theorem good70 : FnOk Tryz.prog 70 cf70 := ⟨Tryz.f70, Tryz.func70, by kernel_rfl, by kernel_rfl⟩
theorem good71 : FnOk Tryz.prog 71 cf71 := ⟨Tryz.f71, Tryz.func71, by kernel_rfl, by kernel_rfl⟩
theorem good72 : FnOk Tryz.prog 72 cf72 := ⟨Tryz.f72, Tryz.func72, by kernel_rfl, by kernel_rfl⟩
theorem good73 : FnOk Tryz.prog 73 cf73 := ⟨Tryz.f73, Tryz.func73, by kernel_rfl, by kernel_rfl⟩
theorem good74 : FnOk Tryz.prog 74 cf74 := ⟨Tryz.f74, Tryz.func74, by kernel_rfl, by kernel_rfl⟩
theorem good75 : FnOk Tryz.prog 75 cf75 := ⟨Tryz.f75, Tryz.func75, by kernel_rfl, by kernel_rfl⟩
theorem good76 : FnOk Tryz.prog 76 cf76 := ⟨Tryz.f76, Tryz.func76, by kernel_rfl, by kernel_rfl⟩
theorem good77 : FnOk Tryz.prog 77 cf77 := ⟨Tryz.f77, Tryz.func77, by kernel_rfl, by kernel_rfl⟩
theorem good79 : FnOk Tryz.prog 79 cf79 := ⟨Tryz.f79, Tryz.func79, by kernel_rfl, by kernel_rfl⟩
theorem good80 : FnOk Tryz.prog 80 cf80 := ⟨Tryz.f80, Tryz.func80, by kernel_rfl, by kernel_rfl⟩
theorem good82 : FnOk Tryz.prog 82 cf82 := ⟨Tryz.f82, Tryz.func82, by kernel_rfl, by kernel_rfl⟩
theorem good83 : FnOk Tryz.prog 83 cf83 := ⟨Tryz.f83, Tryz.func83, by kernel_rfl, by kernel_rfl⟩
theorem good84 : FnOk Tryz.prog 84 cf84 := ⟨Tryz.f84, Tryz.func84, by kernel_rfl, by kernel_rfl⟩
theorem good90 : FnOk Tryz.prog 90 cf90 := ⟨Tryz.f90, Tryz.func90, by kernel_rfl, by kernel_rfl⟩
theorem good94 : FnOk Tryz.prog 94 cf94 := ⟨Tryz.f94, Tryz.func94, by kernel_rfl, by kernel_rfl⟩
theorem good95 : FnOk Tryz.prog 95 cf95 := ⟨Tryz.f95, Tryz.func95, by kernel_rfl, by kernel_rfl⟩
theorem good96 : FnOk Tryz.prog 96 cf96 := ⟨Tryz.f96, Tryz.func96, by kernel_rfl, by kernel_rfl⟩
theorem good97 : FnOk Tryz.prog 97 cf97 := ⟨Tryz.f97, Tryz.func97, by kernel_rfl, by kernel_rfl⟩
theorem good98 : FnOk Tryz.prog 98 cf98 := ⟨Tryz.f98, Tryz.func98, by kernel_rfl, by kernel_rfl⟩
theorem good99 : FnOk Tryz.prog 99 cf99 := ⟨Tryz.f99, Tryz.func99, by kernel_rfl, by kernel_rfl⟩
theorem good100 : FnOk Tryz.prog 100 cf100 := ⟨Tryz.f100, Tryz.func100, by kernel_rfl, by kernel_rfl⟩
theorem good101 : FnOk Tryz.prog 101 cf101 := ⟨Tryz.f101, Tryz.func101, by kernel_rfl, by kernel_rfl⟩
theorem good102 : FnOk Tryz.prog 102 cf102 := ⟨Tryz.f102, Tryz.func102, by kernel_rfl, by kernel_rfl⟩
theorem good103 : FnOk Tryz.prog 103 cf103 := ⟨Tryz.f103, Tryz.func103, by kernel_rfl, by kernel_rfl⟩
theorem good104 : FnOk Tryz.prog 104 cf104 := ⟨Tryz.f104, Tryz.func104, by kernel_rfl, by kernel_rfl⟩
theorem good105 : FnOk Tryz.prog 105 cf105 := ⟨Tryz.f105, Tryz.func105, by kernel_rfl, by kernel_rfl⟩
theorem good106 : FnOk Tryz.prog 106 cf106 := ⟨Tryz.f106, Tryz.func106, by kernel_rfl, by kernel_rfl⟩
theorem good107 : FnOk Tryz.prog 107 cf107 := ⟨Tryz.f107, Tryz.func107, by kernel_rfl, by kernel_rfl⟩
theorem good108 : FnOk Tryz.prog 108 cf108 := ⟨Tryz.f108, Tryz.func108, by kernel_rfl, by kernel_rfl⟩
end Go.Eng.K
