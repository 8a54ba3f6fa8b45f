/-
  ZoneOfNothing's run, by the kernel, over the run in pieces.
-/
import Derived.Test.YtiemcnndfhbidaaGreatDoorKC
import Derived.Test.YtiemcnndfhbidaaGreatDoorKP1
import Derived.Test.YtiemcnndfhbidaaGreatDoorKP2
import Derived.Test.YtiemcnndfhbidaaGreatDoorKP3
set_option maxRecDepth 100000
namespace Go.Eng.K
open Go.Proofs
theorem whole17 : Ckd Tryz.prog cf17.body fr0 S0 (backK cf17 isTrue) :=
  (ckd_step (c := cf17.body) (fr1 := fr1) (S1 := S1) (by kernel_rfl) (ckd_of_chk envOk piece0) (ckd_step (c := cf17.body.tl) (fr1 := fr2) (S1 := S2) (by kernel_rfl) (ckd_of_chk envOk piece1) (ckd_step (c := cf17.body.tl.tl) (fr1 := fr3) (S1 := S3) (by kernel_rfl) (ckd_of_chk envOk piece2) (ckd_step (c := cf17.body.tl.tl.tl) (fr1 := fr4) (S1 := S4) (by kernel_rfl) (ckd_of_chk envOk piece3) (ckd_step (c := cf17.body.tl.tl.tl.tl) (fr1 := fr5) (S1 := S5) (by kernel_rfl) (ckd_of_chk envOk piece4) (ckd_step (c := cf17.body.tl.tl.tl.tl.tl) (fr1 := fr6) (S1 := S6) (by kernel_rfl) (ckd_of_chk envOk piece5) (ckd_step (c := cf17.body.tl.tl.tl.tl.tl.tl) (fr1 := fr7) (S1 := S7) (by kernel_rfl) (ckd_of_chk envOk piece6) (ckd_of_chk envOk last17))))))))
def env2 : Env := { env with con := conTrue 17 }
theorem env2Ok : env2.Ok Tryz.prog :=
  env_true envOk (fun w => true_of_ckd (args := []) (xs := []) envOk (fun _ => 0) good17 (by kernel_rfl) whole17 .nil w)
def args3 : List AV := [.agg [(.any (.i .i64)), (.any (.i .i64)), (.any (.i .i64)), (.any .s), (.any .s), (.any .s), (.any .s), (.any (.i .i64)), (.any (.i .i64)), (.any (.i .i64)), (.any .b), (.any (.i .i64))], .agg [(.any (.i .i64)), (.any .s), (.any .s), (.any (.i .i64)), (.any (.i .i64))]]
def deep2 : Nat → Bool := fun g => memN g [3, 4]
theorem run3 : chk env2 deep2 100000 cf3.body (aframe cf3.n args3) ⟨.nil, 0⟩ (backK cf3 isTrue) = true := by kernel_rfl
end Go.Eng.K
