/-
  Each compiled function is the program's (part 4 of 4).
-/
import Derived.Test.YtiemcnndfhbidaaGreatDoorKA
import Derived.Test.YtiemcnndfhbidaaGreatDoorE25
import Derived.Test.YtiemcnndfhbidaaGreatDoorProg
import Derived.KernelRfl
set_option maxRecDepth 100000
namespace Go.Eng.K
open Go.Proofs
theorem good176 : FnOk Tryz.prog 176 cf176 := ⟨Tryz.f176, Tryz.func176, by kernel_rfl, by kernel_rfl⟩
theorem good177 : FnOk Tryz.prog 177 cf177 := ⟨Tryz.f177, Tryz.func177, by kernel_rfl, by kernel_rfl⟩
theorem good178 : FnOk Tryz.prog 178 cf178 := ⟨Tryz.f178, Tryz.func178, by kernel_rfl, by kernel_rfl⟩
theorem good179 : FnOk Tryz.prog 179 cf179 := ⟨Tryz.f179, Tryz.func179, by kernel_rfl, by kernel_rfl⟩
theorem good180 : FnOk Tryz.prog 180 cf180 := ⟨Tryz.f180, Tryz.func180, by kernel_rfl, by kernel_rfl⟩
theorem good181 : FnOk Tryz.prog 181 cf181 := ⟨Tryz.f181, Tryz.func181, by kernel_rfl, by kernel_rfl⟩
theorem good182 : FnOk Tryz.prog 182 cf182 := ⟨Tryz.f182, Tryz.func182, by kernel_rfl, by kernel_rfl⟩
theorem good183 : FnOk Tryz.prog 183 cf183 := ⟨Tryz.f183, Tryz.func183, by kernel_rfl, by kernel_rfl⟩
theorem good184 : FnOk Tryz.prog 184 cf184 := ⟨Tryz.f184, Tryz.func184, by kernel_rfl, by kernel_rfl⟩
theorem good186 : FnOk Tryz.prog 186 cf186 := ⟨Tryz.f186, Tryz.func186, by kernel_rfl, by kernel_rfl⟩
theorem good187 : FnOk Tryz.prog 187 cf187 := ⟨Tryz.f187, Tryz.func187, by kernel_rfl, by kernel_rfl⟩
theorem good189 : FnOk Tryz.prog 189 cf189 := ⟨Tryz.f189, Tryz.func189, by kernel_rfl, by kernel_rfl⟩
theorem good190 : FnOk Tryz.prog 190 cf190 := ⟨Tryz.f190, Tryz.func190, by kernel_rfl, by kernel_rfl⟩
theorem good191 : FnOk Tryz.prog 191 cf191 := ⟨Tryz.f191, Tryz.func191, by kernel_rfl, by kernel_rfl⟩
theorem good192 : FnOk Tryz.prog 192 cf192 := ⟨Tryz.f192, Tryz.func192, by kernel_rfl, by kernel_rfl⟩
theorem good193 : FnOk Tryz.prog 193 cf193 := ⟨Tryz.f193, Tryz.func193, by kernel_rfl, by kernel_rfl⟩
theorem good195 : FnOk Tryz.prog 195 cf195 := ⟨Tryz.f195, Tryz.func195, by kernel_rfl, by kernel_rfl⟩
theorem good199 : FnOk Tryz.prog 199 cf199 := ⟨Tryz.f199, Tryz.func199, by kernel_rfl, by kernel_rfl⟩
theorem good205 : FnOk Tryz.prog 205 cf205 := ⟨Tryz.f205, Tryz.func205, by kernel_rfl, by kernel_rfl⟩
theorem good209 : FnOk Tryz.prog 209 cf209 := ⟨Tryz.f209, Tryz.func209, by kernel_rfl, by kernel_rfl⟩
theorem good214 : FnOk Tryz.prog 214 cf214 := ⟨Tryz.f214, Tryz.func214, by kernel_rfl, by kernel_rfl⟩
theorem good215 : FnOk Tryz.prog 215 cf215 := ⟨Tryz.f215, Tryz.func215, by kernel_rfl, by kernel_rfl⟩
theorem good216 : FnOk Tryz.prog 216 cf216 := ⟨Tryz.f216, Tryz.func216, by kernel_rfl, by kernel_rfl⟩
theorem good217 : FnOk Tryz.prog 217 cf217 := ⟨Tryz.f217, Tryz.func217, by kernel_rfl, by kernel_rfl⟩
theorem good227 : FnOk Tryz.prog 227 cf227 := ⟨Tryz.f227, Tryz.func227, by kernel_rfl, by kernel_rfl⟩
theorem good228 : FnOk Tryz.prog 228 cf228 := ⟨Tryz.f228, Tryz.func228, by kernel_rfl, by kernel_rfl⟩
theorem good236 : FnOk Tryz.prog 236 cf236 := ⟨Tryz.f236, Tryz.func236, by kernel_rfl, by kernel_rfl⟩
theorem good237 : FnOk Tryz.prog 237 cf237 := ⟨Tryz.f237, Tryz.func237, by kernel_rfl, by kernel_rfl⟩
theorem good238 : FnOk Tryz.prog 238 cf238 := ⟨Tryz.f238, Tryz.func238, by kernel_rfl, by kernel_rfl⟩
theorem good239 : FnOk Tryz.prog 239 cf239 := ⟨Tryz.f239, Tryz.func239, by kernel_rfl, by kernel_rfl⟩
theorem good240 : FnOk Tryz.prog 240 cf240 := ⟨Tryz.f240, Tryz.func240, by kernel_rfl, by kernel_rfl⟩
theorem good244 : FnOk Tryz.prog 244 cf244 := ⟨Tryz.f244, Tryz.func244, by kernel_rfl, by kernel_rfl⟩
theorem good245 : FnOk Tryz.prog 245 cf245 := ⟨Tryz.f245, Tryz.func245, by kernel_rfl, by kernel_rfl⟩
theorem good251 : FnOk Tryz.prog 251 cf251 := ⟨Tryz.f251, Tryz.func251, by kernel_rfl, by kernel_rfl⟩
theorem good262 : FnOk Tryz.prog 262 cf262 := ⟨Tryz.f262, Tryz.func262, by kernel_rfl, by kernel_rfl⟩
theorem good263 : FnOk Tryz.prog 263 cf263 := ⟨Tryz.f263, Tryz.func263, by kernel_rfl, by kernel_rfl⟩
theorem good264 : FnOk Tryz.prog 264 cf264 := ⟨Tryz.f264, Tryz.func264, by kernel_rfl, by kernel_rfl⟩
theorem good268 : FnOk Tryz.prog 268 cf268 := ⟨Tryz.f268, Tryz.func268, by kernel_rfl, by kernel_rfl⟩
theorem good279 : FnOk Tryz.prog 279 cf279 := ⟨Tryz.f279, Tryz.func279, by kernel_rfl, by kernel_rfl⟩
end Go.Eng.K
