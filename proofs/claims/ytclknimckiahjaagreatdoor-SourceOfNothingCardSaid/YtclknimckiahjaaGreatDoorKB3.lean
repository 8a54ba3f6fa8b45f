/-
  Each compiled function is the program's (part 3 of 4).
-/
import Derived.Test.YtclknimckiahjaaGreatDoorKA
import Derived.Test.YtclknimckiahjaaGreatDoorE25
import Derived.Test.YtclknimckiahjaaGreatDoorProg
import Derived.KernelRfl
set_option maxRecDepth 100000
namespace Go.Eng.K
open Go.Proofs
theorem good116 : FnOk Tryz.prog 116 cf116 := ⟨Tryz.f116, Tryz.func116, by kernel_rfl, by kernel_rfl⟩
theorem good117 : FnOk Tryz.prog 117 cf117 := ⟨Tryz.f117, Tryz.func117, by kernel_rfl, by kernel_rfl⟩
theorem good118 : FnOk Tryz.prog 118 cf118 := ⟨Tryz.f118, Tryz.func118, by kernel_rfl, by kernel_rfl⟩
theorem good119 : FnOk Tryz.prog 119 cf119 := ⟨Tryz.f119, Tryz.func119, by kernel_rfl, by kernel_rfl⟩
theorem good120 : FnOk Tryz.prog 120 cf120 := ⟨Tryz.f120, Tryz.func120, by kernel_rfl, by kernel_rfl⟩
theorem good127 : FnOk Tryz.prog 127 cf127 := ⟨Tryz.f127, Tryz.func127, by kernel_rfl, by kernel_rfl⟩
theorem good128 : FnOk Tryz.prog 128 cf128 := ⟨Tryz.f128, Tryz.func128, by kernel_rfl, by kernel_rfl⟩
theorem good129 : FnOk Tryz.prog 129 cf129 := ⟨Tryz.f129, Tryz.func129, by kernel_rfl, by kernel_rfl⟩
theorem good145 : FnOk Tryz.prog 145 cf145 := ⟨Tryz.f145, Tryz.func145, by kernel_rfl, by kernel_rfl⟩
theorem good146 : FnOk Tryz.prog 146 cf146 := ⟨Tryz.f146, Tryz.func146, by kernel_rfl, by kernel_rfl⟩
theorem good155 : FnOk Tryz.prog 155 cf155 := ⟨Tryz.f155, Tryz.func155, by kernel_rfl, by kernel_rfl⟩
theorem good156 : FnOk Tryz.prog 156 cf156 := ⟨Tryz.f156, Tryz.func156, by kernel_rfl, by kernel_rfl⟩
theorem good157 : FnOk Tryz.prog 157 cf157 := ⟨Tryz.f157, Tryz.func157, by kernel_rfl, by kernel_rfl⟩
theorem good159 : FnOk Tryz.prog 159 cf159 := ⟨Tryz.f159, Tryz.func159, by kernel_rfl, by kernel_rfl⟩
theorem good160 : FnOk Tryz.prog 160 cf160 := ⟨Tryz.f160, Tryz.func160, by kernel_rfl, by kernel_rfl⟩
theorem good161 : FnOk Tryz.prog 161 cf161 := ⟨Tryz.f161, Tryz.func161, by kernel_rfl, by kernel_rfl⟩
theorem good163 : FnOk Tryz.prog 163 cf163 := ⟨Tryz.f163, Tryz.func163, by kernel_rfl, by kernel_rfl⟩
theorem good164 : FnOk Tryz.prog 164 cf164 := ⟨Tryz.f164, Tryz.func164, by kernel_rfl, by kernel_rfl⟩
theorem good165 : FnOk Tryz.prog 165 cf165 := ⟨Tryz.f165, Tryz.func165, by kernel_rfl, by kernel_rfl⟩
theorem good166 : FnOk Tryz.prog 166 cf166 := ⟨Tryz.f166, Tryz.func166, by kernel_rfl, by kernel_rfl⟩
theorem good174 : FnOk Tryz.prog 174 cf174 := ⟨Tryz.f174, Tryz.func174, by kernel_rfl, by kernel_rfl⟩
theorem good177 : FnOk Tryz.prog 177 cf177 := ⟨Tryz.f177, Tryz.func177, by kernel_rfl, by kernel_rfl⟩
theorem good178 : FnOk Tryz.prog 178 cf178 := ⟨Tryz.f178, Tryz.func178, by kernel_rfl, by kernel_rfl⟩
theorem good179 : FnOk Tryz.prog 179 cf179 := ⟨Tryz.f179, Tryz.func179, by kernel_rfl, by kernel_rfl⟩
theorem good180 : FnOk Tryz.prog 180 cf180 := ⟨Tryz.f180, Tryz.func180, by kernel_rfl, by kernel_rfl⟩
theorem good181 : FnOk Tryz.prog 181 cf181 := ⟨Tryz.f181, Tryz.func181, by kernel_rfl, by kernel_rfl⟩
theorem good186 : FnOk Tryz.prog 186 cf186 := ⟨Tryz.f186, Tryz.func186, by kernel_rfl, by kernel_rfl⟩
theorem good187 : FnOk Tryz.prog 187 cf187 := ⟨Tryz.f187, Tryz.func187, by kernel_rfl, by kernel_rfl⟩
theorem good188 : FnOk Tryz.prog 188 cf188 := ⟨Tryz.f188, Tryz.func188, by kernel_rfl, by kernel_rfl⟩
theorem good189 : FnOk Tryz.prog 189 cf189 := ⟨Tryz.f189, Tryz.func189, by kernel_rfl, by kernel_rfl⟩
theorem good190 : FnOk Tryz.prog 190 cf190 := ⟨Tryz.f190, Tryz.func190, by kernel_rfl, by kernel_rfl⟩
theorem good191 : FnOk Tryz.prog 191 cf191 := ⟨Tryz.f191, Tryz.func191, by kernel_rfl, by kernel_rfl⟩
theorem good192 : FnOk Tryz.prog 192 cf192 := ⟨Tryz.f192, Tryz.func192, by kernel_rfl, by kernel_rfl⟩
theorem good195 : FnOk Tryz.prog 195 cf195 := ⟨Tryz.f195, Tryz.func195, by kernel_rfl, by kernel_rfl⟩
theorem good196 : FnOk Tryz.prog 196 cf196 := ⟨Tryz.f196, Tryz.func196, by kernel_rfl, by kernel_rfl⟩
theorem good197 : FnOk Tryz.prog 197 cf197 := ⟨Tryz.f197, Tryz.func197, by kernel_rfl, by kernel_rfl⟩
theorem good198 : FnOk Tryz.prog 198 cf198 := ⟨Tryz.f198, Tryz.func198, by kernel_rfl, by kernel_rfl⟩
theorem good199 : FnOk Tryz.prog 199 cf199 := ⟨Tryz.f199, Tryz.func199, by kernel_rfl, by kernel_rfl⟩
theorem good203 : FnOk Tryz.prog 203 cf203 := ⟨Tryz.f203, Tryz.func203, by kernel_rfl, by kernel_rfl⟩
end Go.Eng.K
