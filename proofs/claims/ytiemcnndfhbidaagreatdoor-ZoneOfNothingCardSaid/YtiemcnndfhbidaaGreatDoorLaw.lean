/-
  ZoneOfNothing: whatever the input, the law's function returns true and leaves its arguments as they were.
  Conditions: the row's own alone (the listed package-level variables, which the card ties to the program's text; they are never read).
  How: the texts E1 to E26 are an abstract run of the model's code, proved sound for any program; the texts KA, KB.., KC tie this program's functions to it; R is the run, by the kernel; here are the row and the card.
-/
import Derived.Test.YtiemcnndfhbidaaGreatDoorRows
import Derived.Test.YtiemcnndfhbidaaGreatDoorCards
import Derived.Test.YtiemcnndfhbidaaGreatDoorTie
import Derived.ProofKit
import Derived.OpenShut
import Derived.LaidMore
import Derived.Stop.Joined
import Derived.SevenTiedAt
import Derived.Test.YtiemcnndfhbidaaGreatDoorE26
import Derived.Test.YtiemcnndfhbidaaGreatDoorKC
import Derived.Test.YtiemcnndfhbidaaGreatDoorKR
import Derived.Test.YtiemcnndfhbidaaGreatDoorKF1
import Derived.Test.YtiemcnndfhbidaaGreatDoorKF2
namespace Go.Proofs.YtiemcnndfhbidaaGreatDoor
open Go.ChangeShapes Go.WideShapes Go.ChangeAt Go.WideMaps Go.WideElems Go.RowKit
set_option linter.unusedVariables false

theorem walk (v0 v1 : Value) (W : World) (h0 : Eng.V (Eng.plStart Tryz.prog (fun _ => 0)) (.agg [(.any (.i .i64)), (.any (.i .i64)), (.any (.i .i64)), (.any .s), (.any .s), (.any .s), (.any .s), (.any (.i .i64)), (.any (.i .i64)), (.any (.i .i64)), (.any .b), (.any (.i .i64))]) v0) (h1 : Eng.V (Eng.plStart Tryz.prog (fun _ => 0)) (.agg [(.any (.i .i64)), (.any .s), (.any .s), (.any (.i .i64)), (.any (.i .i64))]) v1) :
    Calls Tryz.prog 3 #[v0, v1] W fun e W' => e = .returned (.bool true) ∧ Below W.heap.size W W' :=
  Eng.true_of_chk (xs := [v0, v1]) Eng.K.env2Ok (fun _ => 0) Eng.K.good3 (by kernel_rfl) Eng.K.run3 (.cons h0 (.cons h1 .nil)) W

set_option maxRecDepth 100000 in
theorem lifted (os : Os) (started : os.Started) (H : Type) (enc : TypeId × Value → H) :
    ReturnsInHanded {} Tryz.checked os 3 .any (fun w args => (Rows.zoneOfNothingSpec.pre enc Tryz.prog Tryz.f3 [] false w args ∧ laidMetH Tryz.prog Rows.zoneOfNothingRow.laid w) ∧ sizedMet enc Tryz.prog Tryz.f3 (OpenSpec.ofChange Rows.zoneOfNothingSpec) false w args)
      (Rows.zoneOfNothingSpec.post enc Tryz.prog Tryz.f3 false true false false) := by
  refine returnsInHanded_of_change_and (C := Tryz.checked) (X := fun w _ => laidMetH Tryz.prog Rows.zoneOfNothingRow.laid w) (fun _ _ _ hh h => h.of_heap hh) own started (by kernel_rfl) Tryz.func3
    (ChangeSpec.witness_shaped (enc := enc) (C := Tryz.checked) (os := os) (X := fun w _ => laidMetH Tryz.prog Rows.zoneOfNothingRow.laid w) false (World.doorLaid Tryz.prog 400 os) #[.agg #[.int .i64 0, .int .i64 0, .int .i64 0, .string ByteArray.empty, .string ByteArray.empty, .string ByteArray.empty, .string ByteArray.empty, .int .i64 0, .int .i64 0, .int .i64 0, .bool false, .int .i64 0], .agg #[.int .i64 0, .string ByteArray.empty, .string ByteArray.empty, .int .i64 0, .int .i64 0]] 8 rfl (World.shaped_of_RefB (by kernel_rfl) (by kernel_rfl)) (by kernel_rfl) (by kernel_rfl) (by kernel_rfl) (door_met os _)) ?_
  intro W base args ds gs before hval0 hW _ _ hL _
  have hval : ∀ (j : Nat) t v, Tryz.f3.params[j]? = some t → args[j]? = some v → Value.okWide Tryz.prog W .any base t v := hval0
  have hW' := hW
  obtain ⟨p, q, hA0, hV, rfl, hfz, hnd⟩ := hW
  have hA : DataW.TrodAll enc Tryz.prog W 0 (fun _ => true) true Tryz.f3.params.toList args.toList ds p := hA0
  rw [Tryz.params3] at hA hval
  obtain ⟨v0, v1, d0, d1, p0, p1, rfl, rfl, rfl, h0, h1⟩ := trodAll_two hA
  obtain ⟨rfl, rfl⟩ := trodVars_none hV
  have a0 := Eng.arg_any (ρ := Eng.plStart Tryz.prog (fun _ => 0)) (a := .agg [(.any (.i .i64)), (.any (.i .i64)), (.any (.i .i64)), (.any .s), (.any .s), (.any .s), (.any .s), (.any (.i .i64)), (.any (.i .i64)), (.any (.i .i64)), (.any .b), (.any (.i .i64))]) (by kernel_rfl) (hval 0 25 v0 rfl rfl)
  have a1 := Eng.arg_any (ρ := Eng.plStart Tryz.prog (fun _ => 0)) (a := .agg [(.any (.i .i64)), (.any .s), (.any .s), (.any (.i .i64)), (.any (.i .i64))]) (by kernel_rfl) (hval 1 29 v1 rfl rfl)
  clear hA0 hval0
  refine (walk v0 v1 W a0 a1).mono fun e W' ⟨he, hb⟩ => ?_
  subst he
  have hlt : ∀ x ∈ (p0 ++ p1) ++ [], x.block < W.heap.size := fun x hx => by simpa using hW'.lt x hx
  refine ⟨_, rfl, _, _, _, [], p0 ++ (p1), [], hW', trodAll_mk1 (shut_bool Tryz.underlying4 _), ?_, rfl, hb.frame _, fun h => by cases h⟩
  exact trodAll_mk2 (Below.trod laid (by kernel_rfl) (of_decide_eq_true (by kernel_rfl)) h0 hb (fun x hx => hlt x (by simp [hx]))) (Below.trod laid (by kernel_rfl) (of_decide_eq_true (by kernel_rfl)) h1 hb (fun x hx => hlt x (by simp [hx])))

theorem over : Rows.ZoneOfNothingSaid :=
  OpenClaim.holds_of_wide 3 Tryz.f3 rfl rfl rfl rfl rfl rfl rfl ⟨rfl, rfl, rfl, rfl, rfl⟩ rfl rfl rfl rfl rfl f_named Tryz.func3 joined
    (of_decide_eq_true (by kernel_rfl)) (by unfold Func.isWrapper; first | (rw [if_pos (by decide +kernel)]; kernel_rfl) | (rw [if_neg (by decide +kernel)]; exact ⟨rfl, rfl⟩))
    (fun os started H enc _ => lifted os started H enc)

theorem zoneOfNothing_holds : Rows.ZoneOfNothingCardSaid :=
  Claim7.holds_tied_plain_at .later [] [.data, .data, .data] true (true, "44e76ac5abdd3aed1843d42d6ef342654f00ee778f2ef2de9e11a4c41e60b359") true
    over (fun _ h => by cases h) f_wf (fun _ h => by cases h) zoneOfNothing_row_tie rfl ⟨rfl, rfl⟩ f_main rfl
    (fun f fn hf hfn => by
      obtain rfl : f = 3 := (Option.some.inj (f_named.symm.trans hf)).symm
      obtain rfl : fn = Tryz.f3 := (Option.some.inj (Tryz.func3.symm.trans hfn)).symm
      exact ⟨f_looks, fun j t ht => by
        rw [Tryz.params3] at ht
        have hm : t ∈ [25, 29] := by simpa using Array.mem_of_getElem? ht
        have hall : ([25, 29].all fun u => !Tryz.prog.wantsStandIn u) = true := by kernel_rfl
        exact (show Tryz.prog.wantsStandIn t = false by simpa using List.all_eq_true.1 hall t hm)⟩)
    f_goes
#print axioms zoneOfNothing_holds
end Go.Proofs.YtiemcnndfhbidaaGreatDoor
