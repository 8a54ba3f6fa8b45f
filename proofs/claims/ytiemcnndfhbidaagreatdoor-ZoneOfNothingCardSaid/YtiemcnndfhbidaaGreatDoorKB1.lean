/-
  Each compiled function is the program's (part 1 of 4).
-/
import Derived.Test.YtiemcnndfhbidaaGreatDoorKA
import Derived.Test.YtiemcnndfhbidaaGreatDoorE25
import Derived.Test.YtiemcnndfhbidaaGreatDoorProg
import Derived.KernelRfl
set_option maxRecDepth 100000
namespace Go.Eng.K
open Go.Proofs
theorem good3 : FnOk Tryz.prog 3 cf3 := ⟨Tryz.f3, Tryz.func3, by kernel_rfl, by kernel_rfl⟩
theorem good4 : FnOk Tryz.prog 4 cf4 := ⟨Tryz.f4, Tryz.func4, by kernel_rfl, by kernel_rfl⟩
theorem good5 : FnOk Tryz.prog 5 cf5 := ⟨Tryz.f5, Tryz.func5, by kernel_rfl, by kernel_rfl⟩
theorem good6 : FnOk Tryz.prog 6 cf6 := ⟨Tryz.f6, Tryz.func6, by kernel_rfl, by kernel_rfl⟩
theorem good7 : FnOk Tryz.prog 7 cf7 := ⟨Tryz.f7, Tryz.func7, by kernel_rfl, by kernel_rfl⟩
theorem good8 : FnOk Tryz.prog 8 cf8 := ⟨Tryz.f8, Tryz.func8, by kernel_rfl, by kernel_rfl⟩
theorem good9 : FnOk Tryz.prog 9 cf9 := ⟨Tryz.f9, Tryz.func9, by kernel_rfl, by kernel_rfl⟩
theorem good10 : FnOk Tryz.prog 10 cf10 := ⟨Tryz.f10, Tryz.func10, by kernel_rfl, by kernel_rfl⟩
theorem good11 : FnOk Tryz.prog 11 cf11 := ⟨Tryz.f11, Tryz.func11, by kernel_rfl, by kernel_rfl⟩
theorem good12 : FnOk Tryz.prog 12 cf12 := ⟨Tryz.f12, Tryz.func12, by kernel_rfl, by kernel_rfl⟩
theorem good13 : FnOk Tryz.prog 13 cf13 := ⟨Tryz.f13, Tryz.func13, by kernel_rfl, by kernel_rfl⟩
theorem good14 : FnOk Tryz.prog 14 cf14 := ⟨Tryz.f14, Tryz.func14, by kernel_rfl, by kernel_rfl⟩
theorem good15 : FnOk Tryz.prog 15 cf15 := ⟨Tryz.f15, Tryz.func15, by kernel_rfl, by kernel_rfl⟩
theorem good16 : FnOk Tryz.prog 16 cf16 := ⟨Tryz.f16, Tryz.func16, by kernel_rfl, by kernel_rfl⟩
theorem good17 : FnOk Tryz.prog 17 cf17 := ⟨Tryz.f17, Tryz.func17, by kernel_rfl, by kernel_rfl⟩
theorem good18 : FnOk Tryz.prog 18 cf18 := ⟨Tryz.f18, Tryz.func18, by kernel_rfl, by kernel_rfl⟩
theorem good19 : FnOk Tryz.prog 19 cf19 := ⟨Tryz.f19, Tryz.func19, by kernel_rfl, by kernel_rfl⟩
theorem good20 : FnOk Tryz.prog 20 cf20 := ⟨Tryz.f20, Tryz.func20, by kernel_rfl, by kernel_rfl⟩
theorem good21 : FnOk Tryz.prog 21 cf21 := ⟨Tryz.f21, Tryz.func21, by kernel_rfl, by kernel_rfl⟩
theorem good22 : FnOk Tryz.prog 22 cf22 := ⟨Tryz.f22, Tryz.func22, by kernel_rfl, by kernel_rfl⟩
theorem good23 : FnOk Tryz.prog 23 cf23 := ⟨Tryz.f23, Tryz.func23, by kernel_rfl, by kernel_rfl⟩
theorem good24 : FnOk Tryz.prog 24 cf24 := ⟨Tryz.f24, Tryz.func24, by kernel_rfl, by kernel_rfl⟩
theorem good25 : FnOk Tryz.prog 25 cf25 := ⟨Tryz.f25, Tryz.func25, by kernel_rfl, by kernel_rfl⟩
theorem good26 : FnOk Tryz.prog 26 cf26 := ⟨Tryz.f26, Tryz.func26, by kernel_rfl, by kernel_rfl⟩
theorem good27 : FnOk Tryz.prog 27 cf27 := ⟨Tryz.f27, Tryz.func27, by kernel_rfl, by kernel_rfl⟩
theorem good28 : FnOk Tryz.prog 28 cf28 := ⟨Tryz.f28, Tryz.func28, by kernel_rfl, by kernel_rfl⟩
theorem good31 : FnOk Tryz.prog 31 cf31 := ⟨Tryz.f31, Tryz.func31, by kernel_rfl, by kernel_rfl⟩
theorem good32 : FnOk Tryz.prog 32 cf32 := ⟨Tryz.f32, Tryz.func32, by kernel_rfl, by kernel_rfl⟩
theorem good33 : FnOk Tryz.prog 33 cf33 := ⟨Tryz.f33, Tryz.func33, by kernel_rfl, by kernel_rfl⟩
theorem good36 : FnOk Tryz.prog 36 cf36 := ⟨Tryz.f36, Tryz.func36, by kernel_rfl, by kernel_rfl⟩
theorem good37 : FnOk Tryz.prog 37 cf37 := ⟨Tryz.f37, Tryz.func37, by kernel_rfl, by kernel_rfl⟩
theorem good38 : FnOk Tryz.prog 38 cf38 := ⟨Tryz.f38, Tryz.func38, by kernel_rfl, by kernel_rfl⟩
theorem good39 : FnOk Tryz.prog 39 cf39 := ⟨Tryz.f39, Tryz.func39, by kernel_rfl, by kernel_rfl⟩
theorem good40 : FnOk Tryz.prog 40 cf40 := ⟨Tryz.f40, Tryz.func40, by kernel_rfl, by kernel_rfl⟩
theorem good41 : FnOk Tryz.prog 41 cf41 := ⟨Tryz.f41, Tryz.func41, by kernel_rfl, by kernel_rfl⟩
theorem good42 : FnOk Tryz.prog 42 cf42 := ⟨Tryz.f42, Tryz.func42, by kernel_rfl, by kernel_rfl⟩
theorem good47 : FnOk Tryz.prog 47 cf47 := ⟨Tryz.f47, Tryz.func47, by kernel_rfl, by kernel_rfl⟩
theorem good48 : FnOk Tryz.prog 48 cf48 := ⟨Tryz.f48, Tryz.func48, by kernel_rfl, by kernel_rfl⟩
theorem good49 : FnOk Tryz.prog 49 cf49 := ⟨Tryz.f49, Tryz.func49, by kernel_rfl, by kernel_rfl⟩
theorem good50 : FnOk Tryz.prog 50 cf50 := ⟨Tryz.f50, Tryz.func50, by kernel_rfl, by kernel_rfl⟩
end Go.Eng.K
