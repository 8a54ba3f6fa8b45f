/-
  Each compiled function is the program's (part 2 of 4).
-/
import Derived.Test.YtclknimckiahjaaGreatDoorKA
import Derived.Test.YtclknimckiahjaaGreatDoorE25
import Derived.Test.YtclknimckiahjaaGreatDoorProg
import Derived.KernelRfl
set_option maxRecDepth 100000
namespace Go.Eng.K
open Go.Proofs
theorem good48 : FnOk Tryz.prog 48 cf48 := ⟨Tryz.f48, Tryz.func48, by kernel_rfl, by kernel_rfl⟩
theorem good49 : FnOk Tryz.prog 49 cf49 := ⟨Tryz.f49, Tryz.func49, by kernel_rfl, by kernel_rfl⟩
theorem good50 : FnOk Tryz.prog 50 cf50 := ⟨Tryz.f50, Tryz.func50, by kernel_rfl, by kernel_rfl⟩
theorem good51 : FnOk Tryz.prog 51 cf51 := ⟨Tryz.f51, Tryz.func51, by kernel_rfl, by kernel_rfl⟩
theorem good52 : FnOk Tryz.prog 52 cf52 := ⟨Tryz.f52, Tryz.func52, by kernel_rfl, by kernel_rfl⟩
theorem good53 : FnOk Tryz.prog 53 cf53 := ⟨Tryz.f53, Tryz.func53, by kernel_rfl, by kernel_rfl⟩
theorem good54 : FnOk Tryz.prog 54 cf54 := ⟨Tryz.f54, Tryz.func54, by kernel_rfl, by kernel_rfl⟩
theorem good55 : FnOk Tryz.prog 55 cf55 := ⟨Tryz.f55, Tryz.func55, by kernel_rfl, by kernel_rfl⟩
theorem good72 : FnOk Tryz.prog 72 cf72 := ⟨Tryz.f72, Tryz.func72, by kernel_rfl, by kernel_rfl⟩
theorem good73 : FnOk Tryz.prog 73 cf73 := ⟨Tryz.f73, Tryz.func73, by kernel_rfl, by kernel_rfl⟩
theorem good74 : FnOk Tryz.prog 74 cf74 := ⟨Tryz.f74, Tryz.func74, by kernel_rfl, by kernel_rfl⟩
theorem good76 : FnOk Tryz.prog 76 cf76 := ⟨Tryz.f76, Tryz.func76, by kernel_rfl, by kernel_rfl⟩
theorem good77 : FnOk Tryz.prog 77 cf77 := ⟨Tryz.f77, Tryz.func77, by kernel_rfl, by kernel_rfl⟩
theorem good79 : FnOk Tryz.prog 79 cf79 := ⟨Tryz.f79, Tryz.func79, by kernel_rfl, by kernel_rfl⟩
theorem good80 : FnOk Tryz.prog 80 cf80 := ⟨Tryz.f80, Tryz.func80, by kernel_rfl, by kernel_rfl⟩
theorem good81 : FnOk Tryz.prog 81 cf81 := ⟨Tryz.f81, Tryz.func81, by kernel_rfl, by kernel_rfl⟩
theorem good83 : FnOk Tryz.prog 83 cf83 := ⟨Tryz.f83, Tryz.func83, by kernel_rfl, by kernel_rfl⟩
theorem good86 : FnOk Tryz.prog 86 cf86 := ⟨Tryz.f86, Tryz.func86, by kernel_rfl, by kernel_rfl⟩
theorem good87 : FnOk Tryz.prog 87 cf87 := ⟨Tryz.f87, Tryz.func87, by kernel_rfl, by kernel_rfl⟩
theorem good88 : FnOk Tryz.prog 88 cf88 := ⟨Tryz.f88, Tryz.func88, by kernel_rfl, by kernel_rfl⟩
theorem good93 : FnOk Tryz.prog 93 cf93 := ⟨Tryz.f93, Tryz.func93, by kernel_rfl, by kernel_rfl⟩
theorem good94 : FnOk Tryz.prog 94 cf94 := ⟨Tryz.f94, Tryz.func94, by kernel_rfl, by kernel_rfl⟩
theorem good95 : FnOk Tryz.prog 95 cf95 := ⟨Tryz.f95, Tryz.func95, by kernel_rfl, by kernel_rfl⟩
theorem good96 : FnOk Tryz.prog 96 cf96 := ⟨Tryz.f96, Tryz.func96, by kernel_rfl, by kernel_rfl⟩
theorem good98 : FnOk Tryz.prog 98 cf98 := ⟨Tryz.f98, Tryz.func98, by kernel_rfl, by kernel_rfl⟩
theorem good99 : FnOk Tryz.prog 99 cf99 := ⟨Tryz.f99, Tryz.func99, by kernel_rfl, by kernel_rfl⟩
theorem good100 : FnOk Tryz.prog 100 cf100 := ⟨Tryz.f100, Tryz.func100, by kernel_rfl, by kernel_rfl⟩
theorem good101 : FnOk Tryz.prog 101 cf101 := ⟨Tryz.f101, Tryz.func101, by kernel_rfl, by kernel_rfl⟩
theorem good102 : FnOk Tryz.prog 102 cf102 := ⟨Tryz.f102, Tryz.func102, by kernel_rfl, by kernel_rfl⟩
theorem good103 : FnOk Tryz.prog 103 cf103 := ⟨Tryz.f103, Tryz.func103, by kernel_rfl, by kernel_rfl⟩
theorem good104 : FnOk Tryz.prog 104 cf104 := ⟨Tryz.f104, Tryz.func104, by kernel_rfl, by kernel_rfl⟩
theorem good105 : FnOk Tryz.prog 105 cf105 := ⟨Tryz.f105, Tryz.func105, by kernel_rfl, by kernel_rfl⟩
theorem good106 : FnOk Tryz.prog 106 cf106 := ⟨Tryz.f106, Tryz.func106, by kernel_rfl, by kernel_rfl⟩
theorem good107 : FnOk Tryz.prog 107 cf107 := ⟨Tryz.f107, Tryz.func107, by kernel_rfl, by kernel_rfl⟩
theorem good108 : FnOk Tryz.prog 108 cf108 := ⟨Tryz.f108, Tryz.func108, by kernel_rfl, by kernel_rfl⟩
theorem good109 : FnOk Tryz.prog 109 cf109 := ⟨Tryz.f109, Tryz.func109, by kernel_rfl, by kernel_rfl⟩
theorem good110 : FnOk Tryz.prog 110 cf110 := ⟨Tryz.f110, Tryz.func110, by kernel_rfl, by kernel_rfl⟩
theorem good112 : FnOk Tryz.prog 112 cf112 := ⟨Tryz.f112, Tryz.func112, by kernel_rfl, by kernel_rfl⟩
theorem good113 : FnOk Tryz.prog 113 cf113 := ⟨Tryz.f113, Tryz.func113, by kernel_rfl, by kernel_rfl⟩
end Go.Eng.K
