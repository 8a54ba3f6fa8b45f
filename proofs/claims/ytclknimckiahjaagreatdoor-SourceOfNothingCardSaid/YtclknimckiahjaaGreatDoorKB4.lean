/-
  Each compiled function is the program's (part 4 of 4).
-/
import Derived.Test.YtclknimckiahjaaGreatDoorKA
import Derived.Test.YtclknimckiahjaaGreatDoorE25
import Derived.Test.YtclknimckiahjaaGreatDoorProg
import Derived.KernelRfl
set_option maxRecDepth 100000
namespace Go.Eng.K
open Go.Proofs
theorem good205 : FnOk Tryz.prog 205 cf205 := ⟨Tryz.f205, Tryz.func205, by kernel_rfl, by kernel_rfl⟩
theorem good206 : FnOk Tryz.prog 206 cf206 := ⟨Tryz.f206, Tryz.func206, by kernel_rfl, by kernel_rfl⟩
theorem good207 : FnOk Tryz.prog 207 cf207 := ⟨Tryz.f207, Tryz.func207, by kernel_rfl, by kernel_rfl⟩
theorem good208 : FnOk Tryz.prog 208 cf208 := ⟨Tryz.f208, Tryz.func208, by kernel_rfl, by kernel_rfl⟩
theorem good209 : FnOk Tryz.prog 209 cf209 := ⟨Tryz.f209, Tryz.func209, by kernel_rfl, by kernel_rfl⟩
theorem good210 : FnOk Tryz.prog 210 cf210 := ⟨Tryz.f210, Tryz.func210, by kernel_rfl, by kernel_rfl⟩
theorem good211 : FnOk Tryz.prog 211 cf211 := ⟨Tryz.f211, Tryz.func211, by kernel_rfl, by kernel_rfl⟩
theorem good212 : FnOk Tryz.prog 212 cf212 := ⟨Tryz.f212, Tryz.func212, by kernel_rfl, by kernel_rfl⟩
theorem good213 : FnOk Tryz.prog 213 cf213 := ⟨Tryz.f213, Tryz.func213, by kernel_rfl, by kernel_rfl⟩
theorem good222 : FnOk Tryz.prog 222 cf222 := ⟨Tryz.f222, Tryz.func222, by kernel_rfl, by kernel_rfl⟩
theorem good223 : FnOk Tryz.prog 223 cf223 := ⟨Tryz.f223, Tryz.func223, by kernel_rfl, by kernel_rfl⟩
theorem good224 : FnOk Tryz.prog 224 cf224 := ⟨Tryz.f224, Tryz.func224, by kernel_rfl, by kernel_rfl⟩
theorem good235 : FnOk Tryz.prog 235 cf235 := ⟨Tryz.f235, Tryz.func235, by kernel_rfl, by kernel_rfl⟩
theorem good236 : FnOk Tryz.prog 236 cf236 := ⟨Tryz.f236, Tryz.func236, by kernel_rfl, by kernel_rfl⟩
theorem good237 : FnOk Tryz.prog 237 cf237 := ⟨Tryz.f237, Tryz.func237, by kernel_rfl, by kernel_rfl⟩
theorem good240 : FnOk Tryz.prog 240 cf240 := ⟨Tryz.f240, Tryz.func240, by kernel_rfl, by kernel_rfl⟩
theorem good241 : FnOk Tryz.prog 241 cf241 := ⟨Tryz.f241, Tryz.func241, by kernel_rfl, by kernel_rfl⟩
theorem good242 : FnOk Tryz.prog 242 cf242 := ⟨Tryz.f242, Tryz.func242, by kernel_rfl, by kernel_rfl⟩
theorem good244 : FnOk Tryz.prog 244 cf244 := ⟨Tryz.f244, Tryz.func244, by kernel_rfl, by kernel_rfl⟩
theorem good245 : FnOk Tryz.prog 245 cf245 := ⟨Tryz.f245, Tryz.func245, by kernel_rfl, by kernel_rfl⟩
theorem good246 : FnOk Tryz.prog 246 cf246 := ⟨Tryz.f246, Tryz.func246, by kernel_rfl, by kernel_rfl⟩
theorem good256 : FnOk Tryz.prog 256 cf256 := ⟨Tryz.f256, Tryz.func256, by kernel_rfl, by kernel_rfl⟩
theorem good257 : FnOk Tryz.prog 257 cf257 := ⟨Tryz.f257, Tryz.func257, by kernel_rfl, by kernel_rfl⟩
theorem good260 : FnOk Tryz.prog 260 cf260 := ⟨Tryz.f260, Tryz.func260, by kernel_rfl, by kernel_rfl⟩
theorem good263 : FnOk Tryz.prog 263 cf263 := ⟨Tryz.f263, Tryz.func263, by kernel_rfl, by kernel_rfl⟩
theorem good266 : FnOk Tryz.prog 266 cf266 := ⟨Tryz.f266, Tryz.func266, by kernel_rfl, by kernel_rfl⟩
theorem good267 : FnOk Tryz.prog 267 cf267 := ⟨Tryz.f267, Tryz.func267, by kernel_rfl, by kernel_rfl⟩
theorem good268 : FnOk Tryz.prog 268 cf268 := ⟨Tryz.f268, Tryz.func268, by kernel_rfl, by kernel_rfl⟩
theorem good287 : FnOk Tryz.prog 287 cf287 := ⟨Tryz.f287, Tryz.func287, by kernel_rfl, by kernel_rfl⟩
theorem good288 : FnOk Tryz.prog 288 cf288 := ⟨Tryz.f288, Tryz.func288, by kernel_rfl, by kernel_rfl⟩
theorem good293 : FnOk Tryz.prog 293 cf293 := ⟨Tryz.f293, Tryz.func293, by kernel_rfl, by kernel_rfl⟩
theorem good303 : FnOk Tryz.prog 303 cf303 := ⟨Tryz.f303, Tryz.func303, by kernel_rfl, by kernel_rfl⟩
theorem good304 : FnOk Tryz.prog 304 cf304 := ⟨Tryz.f304, Tryz.func304, by kernel_rfl, by kernel_rfl⟩
theorem good317 : FnOk Tryz.prog 317 cf317 := ⟨Tryz.f317, Tryz.func317, by kernel_rfl, by kernel_rfl⟩
theorem good318 : FnOk Tryz.prog 318 cf318 := ⟨Tryz.f318, Tryz.func318, by kernel_rfl, by kernel_rfl⟩
theorem good320 : FnOk Tryz.prog 320 cf320 := ⟨Tryz.f320, Tryz.func320, by kernel_rfl, by kernel_rfl⟩
theorem good339 : FnOk Tryz.prog 339 cf339 := ⟨Tryz.f339, Tryz.func339, by kernel_rfl, by kernel_rfl⟩
theorem good358 : FnOk Tryz.prog 358 cf358 := ⟨Tryz.f358, Tryz.func358, by kernel_rfl, by kernel_rfl⟩
end Go.Eng.K
