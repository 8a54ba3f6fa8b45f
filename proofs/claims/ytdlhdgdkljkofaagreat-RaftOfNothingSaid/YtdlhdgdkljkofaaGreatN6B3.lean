/-
  Each compiled function is the program's (part 3 of 4).
-/
import Derived.Test.YtdlhdgdkljkofaaGreatN6A
import Derived.Test.YtdlhdgdkljkofaaGreatE25
import Derived.Test.YtdlhdgdkljkofaaGreatProg
import Derived.KernelRfl
set_option maxRecDepth 100000
namespace Go.Eng.N6
open Go.Proofs
theorem good104 : FnOk Tryz.prog 104 cf104 := ⟨Tryz.f104, Tryz.func104, by kernel_rfl, by kernel_rfl⟩
theorem good106 : FnOk Tryz.prog 106 cf106 := ⟨Tryz.f106, Tryz.func106, by kernel_rfl, by kernel_rfl⟩
theorem good107 : FnOk Tryz.prog 107 cf107 := ⟨Tryz.f107, Tryz.func107, by kernel_rfl, by kernel_rfl⟩
theorem good108 : FnOk Tryz.prog 108 cf108 := ⟨Tryz.f108, Tryz.func108, by kernel_rfl, by kernel_rfl⟩
theorem good109 : FnOk Tryz.prog 109 cf109 := ⟨Tryz.f109, Tryz.func109, by kernel_rfl, by kernel_rfl⟩
theorem good140 : FnOk Tryz.prog 140 cf140 := ⟨Tryz.f140, Tryz.func140, by kernel_rfl, by kernel_rfl⟩
theorem good141 : FnOk Tryz.prog 141 cf141 := ⟨Tryz.f141, Tryz.func141, by kernel_rfl, by kernel_rfl⟩
theorem good142 : FnOk Tryz.prog 142 cf142 := ⟨Tryz.f142, Tryz.func142, by kernel_rfl, by kernel_rfl⟩
theorem good143 : FnOk Tryz.prog 143 cf143 := ⟨Tryz.f143, Tryz.func143, by kernel_rfl, by kernel_rfl⟩
theorem good144 : FnOk Tryz.prog 144 cf144 := ⟨Tryz.f144, Tryz.func144, by kernel_rfl, by kernel_rfl⟩
theorem good145 : FnOk Tryz.prog 145 cf145 := ⟨Tryz.f145, Tryz.func145, by kernel_rfl, by kernel_rfl⟩
theorem good146 : FnOk Tryz.prog 146 cf146 := ⟨Tryz.f146, Tryz.func146, by kernel_rfl, by kernel_rfl⟩
theorem good147 : FnOk Tryz.prog 147 cf147 := ⟨Tryz.f147, Tryz.func147, by kernel_rfl, by kernel_rfl⟩
theorem good151 : FnOk Tryz.prog 151 cf151 := ⟨Tryz.f151, Tryz.func151, by kernel_rfl, by kernel_rfl⟩
theorem good152 : FnOk Tryz.prog 152 cf152 := ⟨Tryz.f152, Tryz.func152, by kernel_rfl, by kernel_rfl⟩
theorem good153 : FnOk Tryz.prog 153 cf153 := ⟨Tryz.f153, Tryz.func153, by kernel_rfl, by kernel_rfl⟩
theorem good154 : FnOk Tryz.prog 154 cf154 := ⟨Tryz.f154, Tryz.func154, by kernel_rfl, by kernel_rfl⟩
theorem good155 : FnOk Tryz.prog 155 cf155 := ⟨Tryz.f155, Tryz.func155, by kernel_rfl, by kernel_rfl⟩
theorem good161 : FnOk Tryz.prog 161 cf161 := ⟨Tryz.f161, Tryz.func161, by kernel_rfl, by kernel_rfl⟩
theorem good162 : FnOk Tryz.prog 162 cf162 := ⟨Tryz.f162, Tryz.func162, by kernel_rfl, by kernel_rfl⟩
theorem good163 : FnOk Tryz.prog 163 cf163 := ⟨Tryz.f163, Tryz.func163, by kernel_rfl, by kernel_rfl⟩
theorem good164 : FnOk Tryz.prog 164 cf164 := ⟨Tryz.f164, Tryz.func164, by kernel_rfl, by kernel_rfl⟩
theorem good165 : FnOk Tryz.prog 165 cf165 := ⟨Tryz.f165, Tryz.func165, by kernel_rfl, by kernel_rfl⟩
theorem good166 : FnOk Tryz.prog 166 cf166 := ⟨Tryz.f166, Tryz.func166, by kernel_rfl, by kernel_rfl⟩
theorem good167 : FnOk Tryz.prog 167 cf167 := ⟨Tryz.f167, Tryz.func167, by kernel_rfl, by kernel_rfl⟩
theorem good168 : FnOk Tryz.prog 168 cf168 := ⟨Tryz.f168, Tryz.func168, by kernel_rfl, by kernel_rfl⟩
theorem good169 : FnOk Tryz.prog 169 cf169 := ⟨Tryz.f169, Tryz.func169, by kernel_rfl, by kernel_rfl⟩
theorem good170 : FnOk Tryz.prog 170 cf170 := ⟨Tryz.f170, Tryz.func170, by kernel_rfl, by kernel_rfl⟩
theorem good171 : FnOk Tryz.prog 171 cf171 := ⟨Tryz.f171, Tryz.func171, by kernel_rfl, by kernel_rfl⟩
theorem good172 : FnOk Tryz.prog 172 cf172 := ⟨Tryz.f172, Tryz.func172, by kernel_rfl, by kernel_rfl⟩
theorem good173 : FnOk Tryz.prog 173 cf173 := ⟨Tryz.f173, Tryz.func173, by kernel_rfl, by kernel_rfl⟩
theorem good174 : FnOk Tryz.prog 174 cf174 := ⟨Tryz.f174, Tryz.func174, by kernel_rfl, by kernel_rfl⟩
end Go.Eng.N6
