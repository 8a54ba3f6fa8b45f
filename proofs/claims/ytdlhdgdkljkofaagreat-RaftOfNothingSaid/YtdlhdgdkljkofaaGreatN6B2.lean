/-
  Each compiled function is the program's (part 2 of 4).
-/
import Derived.Test.YtdlhdgdkljkofaaGreatN6A
import Derived.Test.YtdlhdgdkljkofaaGreatE25
import Derived.Test.YtdlhdgdkljkofaaGreatProg
import Derived.KernelRfl
set_option maxRecDepth 100000
namespace Go.Eng.N6
open Go.Proofs
theorem good72 : FnOk Tryz.prog 72 cf72 := ⟨Tryz.f72, Tryz.func72, by kernel_rfl, by kernel_rfl⟩
theorem good73 : FnOk Tryz.prog 73 cf73 := ⟨Tryz.f73, Tryz.func73, by kernel_rfl, by kernel_rfl⟩
theorem good74 : FnOk Tryz.prog 74 cf74 := ⟨Tryz.f74, Tryz.func74, by kernel_rfl, by kernel_rfl⟩
theorem good75 : FnOk Tryz.prog 75 cf75 := ⟨Tryz.f75, Tryz.func75, by kernel_rfl, by kernel_rfl⟩
theorem good76 : FnOk Tryz.prog 76 cf76 := ⟨Tryz.f76, Tryz.func76, by kernel_rfl, by kernel_rfl⟩
theorem good77 : FnOk Tryz.prog 77 cf77 := ⟨Tryz.f77, Tryz.func77, by kernel_rfl, by kernel_rfl⟩
theorem good78 : FnOk Tryz.prog 78 cf78 := ⟨Tryz.f78, Tryz.func78, by kernel_rfl, by kernel_rfl⟩
theorem good79 : FnOk Tryz.prog 79 cf79 := ⟨Tryz.f79, Tryz.func79, by kernel_rfl, by kernel_rfl⟩
theorem good80 : FnOk Tryz.prog 80 cf80 := ⟨Tryz.f80, Tryz.func80, by kernel_rfl, by kernel_rfl⟩
theorem good81 : FnOk Tryz.prog 81 cf81 := ⟨Tryz.f81, Tryz.func81, by kernel_rfl, by kernel_rfl⟩
theorem good82 : FnOk Tryz.prog 82 cf82 := ⟨Tryz.f82, Tryz.func82, by kernel_rfl, by kernel_rfl⟩
theorem good83 : FnOk Tryz.prog 83 cf83 := ⟨Tryz.f83, Tryz.func83, by kernel_rfl, by kernel_rfl⟩
theorem good84 : FnOk Tryz.prog 84 cf84 := ⟨Tryz.f84, Tryz.func84, by kernel_rfl, by kernel_rfl⟩
theorem good85 : FnOk Tryz.prog 85 cf85 := ⟨Tryz.f85, Tryz.func85, by kernel_rfl, by kernel_rfl⟩
theorem good86 : FnOk Tryz.prog 86 cf86 := ⟨Tryz.f86, Tryz.func86, by kernel_rfl, by kernel_rfl⟩
theorem good87 : FnOk Tryz.prog 87 cf87 := ⟨Tryz.f87, Tryz.func87, by kernel_rfl, by kernel_rfl⟩
theorem good88 : FnOk Tryz.prog 88 cf88 := ⟨Tryz.f88, Tryz.func88, by kernel_rfl, by kernel_rfl⟩
theorem good89 : FnOk Tryz.prog 89 cf89 := ⟨Tryz.f89, Tryz.func89, by kernel_rfl, by kernel_rfl⟩
theorem good90 : FnOk Tryz.prog 90 cf90 := ⟨Tryz.f90, Tryz.func90, by kernel_rfl, by kernel_rfl⟩
theorem good91 : FnOk Tryz.prog 91 cf91 := ⟨Tryz.f91, Tryz.func91, by kernel_rfl, by kernel_rfl⟩
theorem good92 : FnOk Tryz.prog 92 cf92 := ⟨Tryz.f92, Tryz.func92, by kernel_rfl, by kernel_rfl⟩
theorem good93 : FnOk Tryz.prog 93 cf93 := ⟨Tryz.f93, Tryz.func93, by kernel_rfl, by kernel_rfl⟩
theorem good94 : FnOk Tryz.prog 94 cf94 := ⟨Tryz.f94, Tryz.func94, by kernel_rfl, by kernel_rfl⟩
theorem good95 : FnOk Tryz.prog 95 cf95 := ⟨Tryz.f95, Tryz.func95, by kernel_rfl, by kernel_rfl⟩
theorem good96 : FnOk Tryz.prog 96 cf96 := ⟨Tryz.f96, Tryz.func96, by kernel_rfl, by kernel_rfl⟩
theorem good97 : FnOk Tryz.prog 97 cf97 := ⟨Tryz.f97, Tryz.func97, by kernel_rfl, by kernel_rfl⟩
theorem good98 : FnOk Tryz.prog 98 cf98 := ⟨Tryz.f98, Tryz.func98, by kernel_rfl, by kernel_rfl⟩
theorem good99 : FnOk Tryz.prog 99 cf99 := ⟨Tryz.f99, Tryz.func99, by kernel_rfl, by kernel_rfl⟩
theorem good100 : FnOk Tryz.prog 100 cf100 := ⟨Tryz.f100, Tryz.func100, by kernel_rfl, by kernel_rfl⟩
theorem good101 : FnOk Tryz.prog 101 cf101 := ⟨Tryz.f101, Tryz.func101, by kernel_rfl, by kernel_rfl⟩
theorem good102 : FnOk Tryz.prog 102 cf102 := ⟨Tryz.f102, Tryz.func102, by kernel_rfl, by kernel_rfl⟩
theorem good103 : FnOk Tryz.prog 103 cf103 := ⟨Tryz.f103, Tryz.func103, by kernel_rfl, by kernel_rfl⟩
end Go.Eng.N6
