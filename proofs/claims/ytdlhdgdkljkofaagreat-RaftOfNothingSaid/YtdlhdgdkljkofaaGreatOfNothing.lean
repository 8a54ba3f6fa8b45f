/-
  Proved: satrapylaw6.RaftOfNothing returns true whatever the input, and the input reads afterwards as it did before. Conditions: none beyond the row's own cells.
  How: the texts E1 to E26 prove an abstract run of the model's code sound, once for any program; N6A to N6C tie this program's functions to it; N6R7 is the run, by the kernel; here is the row.
-/
import Derived.Test.YtdlhdgdkljkofaaGreatRows
import Derived.ProofKit
import Derived.OpenShut
import Derived.Test.YtdlhdgdkljkofaaGreatE26
import Derived.Test.YtdlhdgdkljkofaaGreatN6C
import Derived.Test.YtdlhdgdkljkofaaGreatN6R7
namespace Go.Proofs.YtdlhdgdkljkofaaGreat
open Go.ChangeShapes Go.WideShapes Go.ChangeAt Go.RowKit
set_option linter.unusedVariables false

theorem own : ownKnob Tryz.prog.godebug = none := by kernel_rfl
theorem laid : laidOutB Tryz.prog = true := by kernel_rfl

theorem walk (v0 v1 v2 : Value) (W : World) (h0 : Eng.V (fun _ => none) (.agg [.any (.i .i64), .any (.i .i64), .any .sl]) v0) (h1 : Eng.V (fun _ => none) (.any (.i .i64)) v1) (h2 : Eng.V (fun _ => none) (.any .sl) v2) :
    Calls Tryz.prog 7 #[v0, v1, v2] W fun e W' => e = .returned (.bool true) ∧ Below W.heap.size W W' :=
  Eng.true_of_chk (xs := [v0, v1, v2]) Eng.N6.envOk Eng.N6.good7 (by kernel_rfl) Eng.N6.run7 (.cons h0 (.cons h1 (.cons h2 .nil))) W

set_option maxRecDepth 100000 in
theorem lifted (os : Os) (started : os.Started) (H : Type) (enc : TypeId × Value → H) :
    ReturnsInHanded {} Tryz.checked os 7 .any (Rows.raftOfNothingSpec.pre6 enc Tryz.prog Tryz.f7 Rows.raftOfNothingRow.domain false) (Rows.raftOfNothingSpec.post enc Tryz.prog Tryz.f7 false true false false) := by
  refine returnsInHanded_of_change (C := Tryz.checked) own started (by kernel_rfl) Tryz.func7
    (ChangeSpec.witness6 (enc := enc) (C := Tryz.checked) false ⟨#[], #[.agg #[.int .i64 0, .int .i64 0, .slice none 0 0], .int .i64 0, .slice none 0 0], []⟩ 8 (by kernel_rfl) (by kernel_rfl) (by kernel_rfl) (by kernel_rfl)) ?_
  intro W base args ds gs before hval0 hW hcnd _
  have hval : ∀ (j : Nat) t v, Tryz.f7.params[j]? = some t → args[j]? = some v → Value.okWide Tryz.prog W .any base t v := hval0
  have hW' := hW
  obtain ⟨p, q, hA0, hV, rfl, hfz, hnd⟩ := hW
  have hA : DataW.TrodAll enc Tryz.prog W 0 (fun _ => true) true Tryz.f7.params.toList args.toList ds p := hA0
  rw [Tryz.params7] at hA hval
  obtain ⟨v0, v1, v2, d0, d1, d2, p0, p1, p2, rfl, rfl, rfl, h0, h1, h2⟩ := trodAll_three hA
  obtain ⟨rfl, rfl⟩ := trodVars_none hV
  have a0 := Eng.arg_any (ρ := fun _ => none) (a := .agg [.any (.i .i64), .any (.i .i64), .any .sl]) (by kernel_rfl) (hval 0 56 v0 rfl rfl)
  have a1 := Eng.arg_any (ρ := fun _ => none) (a := .any (.i .i64)) (by kernel_rfl) (hval 1 3 v1 rfl rfl)
  have a2 := Eng.arg_any (ρ := fun _ => none) (a := .any .sl) (by kernel_rfl) (hval 2 45 v2 rfl rfl)
  clear hA0 hval0
  refine (walk v0 v1 v2 W a0 a1 a2).mono fun e W' ⟨he, hb⟩ => ?_
  subst he
  have hlt : ∀ x ∈ (p0 ++ p1 ++ p2) ++ [], x.block < W.heap.size := fun x hx => by simpa using hW'.lt x hx
  refine ⟨_, rfl, _, _, _, [], p0 ++ (p1 ++ p2), [], hW', trodAll_mk1 (shut_bool Tryz.underlying4 _), ?_, rfl, hb.frame _, fun h => by cases h⟩
  exact trodAll_mk3 (Below.trod laid (by kernel_rfl) (of_decide_eq_true (by kernel_rfl)) h0 hb (fun x hx => hlt x (by simp [hx])))
    (Below.trod laid (by kernel_rfl) (of_decide_eq_true (by kernel_rfl)) h1 hb (fun x hx => hlt x (by simp [hx])))
    (Below.trod laid (by kernel_rfl) (of_decide_eq_true (by kernel_rfl)) h2 hb (fun x hx => hlt x (by simp [hx])))

theorem over : Rows.raftOfNothingRow.holds Tryz.pinned (OpenSpec.ofChange Rows.raftOfNothingSpec) :=
  OpenClaim.holds_of_wide 7 Tryz.f7 rfl rfl rfl rfl rfl rfl rfl ⟨rfl, rfl, rfl, rfl, rfl⟩ rfl rfl rfl rfl rfl (by kernel_rfl) Tryz.func7 (by kernel_rfl)
    (of_decide_eq_true (by kernel_rfl)) (by unfold Func.isWrapper; first | (rw [if_pos (by decide +kernel)]; kernel_rfl) | (rw [if_neg (by decide +kernel)]; exact ⟨rfl, rfl⟩))
    (fun os started H enc _ => lifted os started H enc)

theorem raftOfNothing_holds : Rows.RaftOfNothingSaid := over
#print axioms raftOfNothing_holds
end Go.Proofs.YtdlhdgdkljkofaaGreat
