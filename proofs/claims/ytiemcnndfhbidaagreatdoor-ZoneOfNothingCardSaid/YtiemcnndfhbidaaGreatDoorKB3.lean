/-
  Each compiled function is the program's (part 3 of 4).
-/
import Derived.Test.YtiemcnndfhbidaaGreatDoorKA
import Derived.Test.YtiemcnndfhbidaaGreatDoorE25
import Derived.Test.YtiemcnndfhbidaaGreatDoorProg
import Derived.KernelRfl
set_option maxRecDepth 100000
namespace Go.Eng.K
open Go.Proofs
theorem good109 : FnOk Tryz.prog 109 cf109 := ⟨Tryz.f109, Tryz.func109, by kernel_rfl, by kernel_rfl⟩
theorem good110 : FnOk Tryz.prog 110 cf110 := ⟨Tryz.f110, Tryz.func110, by kernel_rfl, by kernel_rfl⟩
theorem good111 : FnOk Tryz.prog 111 cf111 := ⟨Tryz.f111, Tryz.func111, by kernel_rfl, by kernel_rfl⟩
theorem good112 : FnOk Tryz.prog 112 cf112 := ⟨Tryz.f112, Tryz.func112, by kernel_rfl, by kernel_rfl⟩
theorem good113 : FnOk Tryz.prog 113 cf113 := ⟨Tryz.f113, Tryz.func113, by kernel_rfl, by kernel_rfl⟩
theorem good114 : FnOk Tryz.prog 114 cf114 := ⟨Tryz.f114, Tryz.func114, by kernel_rfl, by kernel_rfl⟩
theorem good115 : FnOk Tryz.prog 115 cf115 := ⟨Tryz.f115, Tryz.func115, by kernel_rfl, by kernel_rfl⟩
theorem good119 : FnOk Tryz.prog 119 cf119 := ⟨Tryz.f119, Tryz.func119, by kernel_rfl, by kernel_rfl⟩
theorem good121 : FnOk Tryz.prog 121 cf121 := ⟨Tryz.f121, Tryz.func121, by kernel_rfl, by kernel_rfl⟩
theorem good122 : FnOk Tryz.prog 122 cf122 := ⟨Tryz.f122, Tryz.func122, by kernel_rfl, by kernel_rfl⟩
theorem good123 : FnOk Tryz.prog 123 cf123 := ⟨Tryz.f123, Tryz.func123, by kernel_rfl, by kernel_rfl⟩
theorem good124 : FnOk Tryz.prog 124 cf124 := ⟨Tryz.f124, Tryz.func124, by kernel_rfl, by kernel_rfl⟩
theorem good125 : FnOk Tryz.prog 125 cf125 := ⟨Tryz.f125, Tryz.func125, by kernel_rfl, by kernel_rfl⟩
theorem good126 : FnOk Tryz.prog 126 cf126 := ⟨Tryz.f126, Tryz.func126, by kernel_rfl, by kernel_rfl⟩
theorem good127 : FnOk Tryz.prog 127 cf127 := ⟨Tryz.f127, Tryz.func127, by kernel_rfl, by kernel_rfl⟩
theorem good128 : FnOk Tryz.prog 128 cf128 := ⟨Tryz.f128, Tryz.func128, by kernel_rfl, by kernel_rfl⟩
theorem good129 : FnOk Tryz.prog 129 cf129 := ⟨Tryz.f129, Tryz.func129, by kernel_rfl, by kernel_rfl⟩
theorem good130 : FnOk Tryz.prog 130 cf130 := ⟨Tryz.f130, Tryz.func130, by kernel_rfl, by kernel_rfl⟩
theorem good132 : FnOk Tryz.prog 132 cf132 := ⟨Tryz.f132, Tryz.func132, by kernel_rfl, by kernel_rfl⟩
theorem good133 : FnOk Tryz.prog 133 cf133 := ⟨Tryz.f133, Tryz.func133, by kernel_rfl, by kernel_rfl⟩
theorem good134 : FnOk Tryz.prog 134 cf134 := ⟨Tryz.f134, Tryz.func134, by kernel_rfl, by kernel_rfl⟩
theorem good135 : FnOk Tryz.prog 135 cf135 := ⟨Tryz.f135, Tryz.func135, by kernel_rfl, by kernel_rfl⟩
theorem good142 : FnOk Tryz.prog 142 cf142 := ⟨Tryz.f142, Tryz.func142, by kernel_rfl, by kernel_rfl⟩
theorem good144 : FnOk Tryz.prog 144 cf144 := ⟨Tryz.f144, Tryz.func144, by kernel_rfl, by kernel_rfl⟩
theorem good146 : FnOk Tryz.prog 146 cf146 := ⟨Tryz.f146, Tryz.func146, by kernel_rfl, by kernel_rfl⟩
theorem good147 : FnOk Tryz.prog 147 cf147 := ⟨Tryz.f147, Tryz.func147, by kernel_rfl, by kernel_rfl⟩
theorem good148 : FnOk Tryz.prog 148 cf148 := ⟨Tryz.f148, Tryz.func148, by kernel_rfl, by kernel_rfl⟩
theorem good149 : FnOk Tryz.prog 149 cf149 := ⟨Tryz.f149, Tryz.func149, by kernel_rfl, by kernel_rfl⟩
theorem good150 : FnOk Tryz.prog 150 cf150 := ⟨Tryz.f150, Tryz.func150, by kernel_rfl, by kernel_rfl⟩
theorem good155 : FnOk Tryz.prog 155 cf155 := ⟨Tryz.f155, Tryz.func155, by kernel_rfl, by kernel_rfl⟩
theorem good156 : FnOk Tryz.prog 156 cf156 := ⟨Tryz.f156, Tryz.func156, by kernel_rfl, by kernel_rfl⟩
theorem good157 : FnOk Tryz.prog 157 cf157 := ⟨Tryz.f157, Tryz.func157, by kernel_rfl, by kernel_rfl⟩
theorem good158 : FnOk Tryz.prog 158 cf158 := ⟨Tryz.f158, Tryz.func158, by kernel_rfl, by kernel_rfl⟩
theorem good159 : FnOk Tryz.prog 159 cf159 := ⟨Tryz.f159, Tryz.func159, by kernel_rfl, by kernel_rfl⟩
theorem good160 : FnOk Tryz.prog 160 cf160 := ⟨Tryz.f160, Tryz.func160, by kernel_rfl, by kernel_rfl⟩
theorem good161 : FnOk Tryz.prog 161 cf161 := ⟨Tryz.f161, Tryz.func161, by kernel_rfl, by kernel_rfl⟩
theorem good169 : FnOk Tryz.prog 169 cf169 := ⟨Tryz.f169, Tryz.func169, by kernel_rfl, by kernel_rfl⟩
theorem good172 : FnOk Tryz.prog 172 cf172 := ⟨Tryz.f172, Tryz.func172, by kernel_rfl, by kernel_rfl⟩
theorem good173 : FnOk Tryz.prog 173 cf173 := ⟨Tryz.f173, Tryz.func173, by kernel_rfl, by kernel_rfl⟩
theorem good175 : FnOk Tryz.prog 175 cf175 := ⟨Tryz.f175, Tryz.func175, by kernel_rfl, by kernel_rfl⟩
end Go.Eng.K
