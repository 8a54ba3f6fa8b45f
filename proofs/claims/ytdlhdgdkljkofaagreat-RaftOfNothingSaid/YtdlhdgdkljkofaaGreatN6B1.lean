/-
  Each compiled function is the program's (part 1 of 4).
-/
import Derived.Test.YtdlhdgdkljkofaaGreatN6A
import Derived.Test.YtdlhdgdkljkofaaGreatE25
import Derived.Test.YtdlhdgdkljkofaaGreatProg
import Derived.KernelRfl
set_option maxRecDepth 100000
namespace Go.Eng.N6
open Go.Proofs
theorem good7 : FnOk Tryz.prog 7 cf7 := ⟨Tryz.f7, Tryz.func7, by kernel_rfl, by kernel_rfl⟩
theorem good9 : FnOk Tryz.prog 9 cf9 := ⟨Tryz.f9, Tryz.func9, by kernel_rfl, by kernel_rfl⟩
theorem good10 : FnOk Tryz.prog 10 cf10 := ⟨Tryz.f10, Tryz.func10, by kernel_rfl, by kernel_rfl⟩
theorem good11 : FnOk Tryz.prog 11 cf11 := ⟨Tryz.f11, Tryz.func11, by kernel_rfl, by kernel_rfl⟩
theorem good12 : FnOk Tryz.prog 12 cf12 := ⟨Tryz.f12, Tryz.func12, by kernel_rfl, by kernel_rfl⟩
theorem good13 : FnOk Tryz.prog 13 cf13 := ⟨Tryz.f13, Tryz.func13, by kernel_rfl, by kernel_rfl⟩
theorem good14 : FnOk Tryz.prog 14 cf14 := ⟨Tryz.f14, Tryz.func14, by kernel_rfl, by kernel_rfl⟩
theorem good15 : FnOk Tryz.prog 15 cf15 := ⟨Tryz.f15, Tryz.func15, by kernel_rfl, by kernel_rfl⟩
theorem good16 : FnOk Tryz.prog 16 cf16 := ⟨Tryz.f16, Tryz.func16, by kernel_rfl, by kernel_rfl⟩
theorem good25 : FnOk Tryz.prog 25 cf25 := ⟨Tryz.f25, Tryz.func25, by kernel_rfl, by kernel_rfl⟩
theorem good26 : FnOk Tryz.prog 26 cf26 := ⟨Tryz.f26, Tryz.func26, by kernel_rfl, by kernel_rfl⟩
theorem good27 : FnOk Tryz.prog 27 cf27 := ⟨Tryz.f27, Tryz.func27, by kernel_rfl, by kernel_rfl⟩
theorem good28 : FnOk Tryz.prog 28 cf28 := ⟨Tryz.f28, Tryz.func28, by kernel_rfl, by kernel_rfl⟩
theorem good29 : FnOk Tryz.prog 29 cf29 := ⟨Tryz.f29, Tryz.func29, by kernel_rfl, by kernel_rfl⟩
theorem good30 : FnOk Tryz.prog 30 cf30 := ⟨Tryz.f30, Tryz.func30, by kernel_rfl, by kernel_rfl⟩
theorem good32 : FnOk Tryz.prog 32 cf32 := ⟨Tryz.f32, Tryz.func32, by kernel_rfl, by kernel_rfl⟩
theorem good33 : FnOk Tryz.prog 33 cf33 := ⟨Tryz.f33, Tryz.func33, by kernel_rfl, by kernel_rfl⟩
theorem good34 : FnOk Tryz.prog 34 cf34 := ⟨Tryz.f34, Tryz.func34, by kernel_rfl, by kernel_rfl⟩
theorem good35 : FnOk Tryz.prog 35 cf35 := ⟨Tryz.f35, Tryz.func35, by kernel_rfl, by kernel_rfl⟩
theorem good36 : FnOk Tryz.prog 36 cf36 := ⟨Tryz.f36, Tryz.func36, by kernel_rfl, by kernel_rfl⟩
theorem good37 : FnOk Tryz.prog 37 cf37 := ⟨Tryz.f37, Tryz.func37, by kernel_rfl, by kernel_rfl⟩
theorem good38 : FnOk Tryz.prog 38 cf38 := ⟨Tryz.f38, Tryz.func38, by kernel_rfl, by kernel_rfl⟩
theorem good39 : FnOk Tryz.prog 39 cf39 := ⟨Tryz.f39, Tryz.func39, by kernel_rfl, by kernel_rfl⟩
theorem good40 : FnOk Tryz.prog 40 cf40 := ⟨Tryz.f40, Tryz.func40, by kernel_rfl, by kernel_rfl⟩
theorem good41 : FnOk Tryz.prog 41 cf41 := ⟨Tryz.f41, Tryz.func41, by kernel_rfl, by kernel_rfl⟩
theorem good42 : FnOk Tryz.prog 42 cf42 := ⟨Tryz.f42, Tryz.func42, by kernel_rfl, by kernel_rfl⟩
theorem good43 : FnOk Tryz.prog 43 cf43 := ⟨Tryz.f43, Tryz.func43, by kernel_rfl, by kernel_rfl⟩
theorem good44 : FnOk Tryz.prog 44 cf44 := ⟨Tryz.f44, Tryz.func44, by kernel_rfl, by kernel_rfl⟩
theorem good45 : FnOk Tryz.prog 45 cf45 := ⟨Tryz.f45, Tryz.func45, by kernel_rfl, by kernel_rfl⟩
theorem good46 : FnOk Tryz.prog 46 cf46 := ⟨Tryz.f46, Tryz.func46, by kernel_rfl, by kernel_rfl⟩
theorem good47 : FnOk Tryz.prog 47 cf47 := ⟨Tryz.f47, Tryz.func47, by kernel_rfl, by kernel_rfl⟩
theorem good71 : FnOk Tryz.prog 71 cf71 := ⟨Tryz.f71, Tryz.func71, by kernel_rfl, by kernel_rfl⟩
end Go.Eng.N6
