/-
  Each compiled function is the program's (part 4 of 4).
-/
import Derived.Test.YtdlhdgdkljkofaaGreatN6A
import Derived.Test.YtdlhdgdkljkofaaGreatE25
import Derived.Test.YtdlhdgdkljkofaaGreatProg
import Derived.KernelRfl
set_option maxRecDepth 100000
namespace Go.Eng.N6
open Go.Proofs
theorem good175 : FnOk Tryz.prog 175 cf175 := ⟨Tryz.f175, Tryz.func175, by kernel_rfl, by kernel_rfl⟩
theorem good176 : FnOk Tryz.prog 176 cf176 := ⟨Tryz.f176, Tryz.func176, by kernel_rfl, by kernel_rfl⟩
theorem good177 : FnOk Tryz.prog 177 cf177 := ⟨Tryz.f177, Tryz.func177, by kernel_rfl, by kernel_rfl⟩
theorem good178 : FnOk Tryz.prog 178 cf178 := ⟨Tryz.f178, Tryz.func178, by kernel_rfl, by kernel_rfl⟩
theorem good179 : FnOk Tryz.prog 179 cf179 := ⟨Tryz.f179, Tryz.func179, by kernel_rfl, by kernel_rfl⟩
theorem good180 : FnOk Tryz.prog 180 cf180 := ⟨Tryz.f180, Tryz.func180, by kernel_rfl, by kernel_rfl⟩
theorem good206 : FnOk Tryz.prog 206 cf206 := ⟨Tryz.f206, Tryz.func206, by kernel_rfl, by kernel_rfl⟩
theorem good207 : FnOk Tryz.prog 207 cf207 := ⟨Tryz.f207, Tryz.func207, by kernel_rfl, by kernel_rfl⟩
theorem good208 : FnOk Tryz.prog 208 cf208 := ⟨Tryz.f208, Tryz.func208, by kernel_rfl, by kernel_rfl⟩
theorem good209 : FnOk Tryz.prog 209 cf209 := ⟨Tryz.f209, Tryz.func209, by kernel_rfl, by kernel_rfl⟩
theorem good210 : FnOk Tryz.prog 210 cf210 := ⟨Tryz.f210, Tryz.func210, by kernel_rfl, by kernel_rfl⟩
theorem good211 : FnOk Tryz.prog 211 cf211 := ⟨Tryz.f211, Tryz.func211, by kernel_rfl, by kernel_rfl⟩
theorem good212 : FnOk Tryz.prog 212 cf212 := ⟨Tryz.f212, Tryz.func212, by kernel_rfl, by kernel_rfl⟩
theorem good213 : FnOk Tryz.prog 213 cf213 := ⟨Tryz.f213, Tryz.func213, by kernel_rfl, by kernel_rfl⟩
theorem good214 : FnOk Tryz.prog 214 cf214 := ⟨Tryz.f214, Tryz.func214, by kernel_rfl, by kernel_rfl⟩
theorem good215 : FnOk Tryz.prog 215 cf215 := ⟨Tryz.f215, Tryz.func215, by kernel_rfl, by kernel_rfl⟩
theorem good216 : FnOk Tryz.prog 216 cf216 := ⟨Tryz.f216, Tryz.func216, by kernel_rfl, by kernel_rfl⟩
theorem good218 : FnOk Tryz.prog 218 cf218 := ⟨Tryz.f218, Tryz.func218, by kernel_rfl, by kernel_rfl⟩
theorem good219 : FnOk Tryz.prog 219 cf219 := ⟨Tryz.f219, Tryz.func219, by kernel_rfl, by kernel_rfl⟩
theorem good220 : FnOk Tryz.prog 220 cf220 := ⟨Tryz.f220, Tryz.func220, by kernel_rfl, by kernel_rfl⟩
theorem good221 : FnOk Tryz.prog 221 cf221 := ⟨Tryz.f221, Tryz.func221, by kernel_rfl, by kernel_rfl⟩
theorem good222 : FnOk Tryz.prog 222 cf222 := ⟨Tryz.f222, Tryz.func222, by kernel_rfl, by kernel_rfl⟩
theorem good223 : FnOk Tryz.prog 223 cf223 := ⟨Tryz.f223, Tryz.func223, by kernel_rfl, by kernel_rfl⟩
theorem good224 : FnOk Tryz.prog 224 cf224 := ⟨Tryz.f224, Tryz.func224, by kernel_rfl, by kernel_rfl⟩
theorem good225 : FnOk Tryz.prog 225 cf225 := ⟨Tryz.f225, Tryz.func225, by kernel_rfl, by kernel_rfl⟩
theorem good242 : FnOk Tryz.prog 242 cf242 := ⟨Tryz.f242, Tryz.func242, by kernel_rfl, by kernel_rfl⟩
theorem good243 : FnOk Tryz.prog 243 cf243 := ⟨Tryz.f243, Tryz.func243, by kernel_rfl, by kernel_rfl⟩
theorem good244 : FnOk Tryz.prog 244 cf244 := ⟨Tryz.f244, Tryz.func244, by kernel_rfl, by kernel_rfl⟩
theorem good245 : FnOk Tryz.prog 245 cf245 := ⟨Tryz.f245, Tryz.func245, by kernel_rfl, by kernel_rfl⟩
theorem good247 : FnOk Tryz.prog 247 cf247 := ⟨Tryz.f247, Tryz.func247, by kernel_rfl, by kernel_rfl⟩
theorem good248 : FnOk Tryz.prog 248 cf248 := ⟨Tryz.f248, Tryz.func248, by kernel_rfl, by kernel_rfl⟩
end Go.Eng.N6
