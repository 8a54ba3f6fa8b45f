/-
  A region in whatever order: the run of one order is the run of all.
-/
import Derived.Test.YtiemcnndfhbidaaGreatDoorE19
set_option linter.unusedSimpArgs false
set_option linter.unusedVariables false
set_option linter.unusedSectionVars false
namespace Go.Eng
open Go.RowKit (Below)

/-! ### Runs and their orders -/
section
variable (Sm : Nat → St → St → Prop)
inductive HRun : List Nat → St → St → Prop
  | nil {S : St} : HRun [] S S
  | cons {i : Nat} {l : List Nat} {S T U : St} : Sm i S T → HRun l T U → HRun (i :: l) S U
def Indep (i j : Nat) : Prop := ∀ S T U, Sm i S T → Sm j T U → ∃ T', Sm j S T' ∧ Sm i T' U
variable {Sm}
theorem HRun.pull {i : Nat} {B : List Nat} : ∀ {A : List Nat} {S U : St}, HRun Sm (A ++ i :: B) S U → (∀ x ∈ A, Indep Sm x i) → HRun Sm (i :: (A ++ B)) S U
  | [], _, _, h, _ => h
  | x :: A, S, U, h, hi => by
    cases h with
    | cons h1 h2 =>
      have := HRun.pull h2 (fun y hy => hi y (List.mem_cons_of_mem _ hy))
      cases this with
      | cons h3 h4 =>
        obtain ⟨T', h5, h6⟩ := hi x List.mem_cons_self _ _ _ h1 h3
        exact .cons h5 (.cons h6 h4)
end

/-! ### Masks -/
theorem maskOf_bit (acc : List Nat) (e : Nat) : ∀ (es : List Nat) (m : Nat), Nat.testBit (maskOf acc es m) e = (Nat.testBit m e || es.any fun d => d == e || Nat.testBit (acc.getD d 0) e)
  | [], m => by simp [maskOf]
  | d :: es, m => by
    rw [maskOf, maskOf_bit acc e es]
    show (((m ||| 2 ^ d) ||| acc.getD d 0).testBit e || _) = _
    rw [Nat.testBit_or, Nat.testBit_or, Nat.testBit_two_pow]
    simp only [List.any_cons, Bool.or_assoc]
    rfl
theorem masks_acc : ∀ (es : List (List Nat)) (acc : List Nat), ∃ l, masks es acc = acc ++ l ∧ l.length = es.length
  | [], acc => ⟨[], by simp [masks], rfl⟩
  | e :: es, acc => by
    obtain ⟨l, h1, h2⟩ := masks_acc es (acc ++ [maskOf acc e 0])
    exact ⟨maskOf acc e 0 :: l, by rw [masks, h1]; simp, by simp [h2]⟩
theorem edgesLt_spec : ∀ (es : List (List Nat)) (i : Nat), edgesLt es i = true → ∀ j l, es[j]? = some l → ∀ e ∈ l, e < i + j
  | [], i, h, j, l, hj, e, he => by simp at hj
  | l0 :: es, i, h, j, l, hj, e, he => by
    simp only [edgesLt, Bool.and_eq_true] at h
    cases j with
    | zero =>
      simp only [List.getElem?_cons_zero, Option.some.injEq] at hj
      subst hj
      have := List.all_eq_true.1 h.1 e he
      simpa [Nat.blt, Nat.succ_le_iff] using this
    | succ j =>
      have := edgesLt_spec es (i + 1) h.2 j l (by simpa using hj) e he
      omega
theorem masks_bit : ∀ (es : List (List Nat)) (acc : List Nat), edgesLt es acc.length = true → ∀ j l, es[j]? = some l → ∀ e,
    Nat.testBit ((masks es acc).getD (acc.length + j) 0) e = l.any fun d => d == e || Nat.testBit ((masks es acc).getD d 0) e
  | [], acc, h, j, l, hj, e => by simp at hj
  | l0 :: es, acc, h, j, l, hj, e => by
    simp only [edgesLt, Bool.and_eq_true] at h
    cases j with
    | zero =>
      simp only [List.getElem?_cons_zero, Option.some.injEq] at hj
      subst hj
      rw [masks]
      obtain ⟨r, h1, h2⟩ := masks_acc es (acc ++ [maskOf acc l0 0])
      rw [h1]
      have e1 : (acc ++ [maskOf acc l0 0] ++ r).getD (acc.length + 0) 0 = maskOf acc l0 0 := by simp [List.getD_eq_getElem?_getD]
      rw [e1, maskOf_bit]
      simp only [Nat.zero_testBit, Bool.false_or]
      have e2 : ∀ d, d ∈ l0 → (acc ++ [maskOf acc l0 0] ++ r).getD d 0 = acc.getD d 0 := by
        intro d hd
        have := List.all_eq_true.1 h.1 d hd
        have hlt : d < acc.length := by simpa [Nat.blt, Nat.succ_le_iff] using this
        simp only [List.getD_eq_getElem?_getD, List.append_assoc]
        rw [List.getElem?_append_left hlt]
      rw [Bool.eq_iff_iff, List.any_eq_true, List.any_eq_true]
      constructor
      · rintro ⟨d, hd, hx⟩
        exact ⟨d, hd, by rw [e2 d hd]; exact hx⟩
      · rintro ⟨d, hd, hx⟩
        exact ⟨d, hd, by rw [e2 d hd] at hx; exact hx⟩
    | succ j =>
      have hh : edgesLt es (acc ++ [maskOf acc l0 0]).length = true := by simpa using h.2
      have := masks_bit es (acc ++ [maskOf acc l0 0]) hh j l (by simpa using hj) e
      rw [masks]
      rw [← this]
      congr 2
      simp
      omega

theorem memN_iff {n : Nat} : ∀ {l : List Nat}, memN n l = true ↔ n ∈ l
  | [] => by simp [memN]
  | m :: r => by
    rw [memN]
    cases h : Nat.beq n m with
    | true => simp [Nat.eq_of_beq_eq_true h]
    | false =>
      have : n ≠ m := by rintro rfl; simp at h
      simp [this, memN_iff (l := r)]
theorem disj_spec {a b : List Nat} (h : disj a b = true) : ∀ i ∈ a, i ∉ b := by
  intro i hi hb
  have := List.all_eq_true.1 h i hi
  simp only [Bool.not_eq_true'] at this
  rw [memN_iff.2 hb] at this
  cases this
theorem allFrom_spec {f : Nat → COp → Bool} : ∀ {os : List COp} {k : Nat}, allFrom f os k = true → ∀ i c, os[i]? = some c → f (k + i) c = true
  | [], k, h, i, c, hi => by simp at hi
  | o :: os, k, h, i, c, hi => by
    simp only [allFrom, Bool.and_eq_true] at h
    cases i with
    | zero =>
      simp only [List.getElem?_cons_zero, Option.some.injEq] at hi
      subst hi
      exact h.1
    | succ i =>
      have := allFrom_spec h.2 i c (by simpa using hi)
      rwa [show k + (i + 1) = k + 1 + i by omega]
theorem memP_iff {i j : Nat} : ∀ {l : List (Nat × Nat)}, memP i j l = true → (i, j) ∈ l
  | [], h => by simp [memP] at h
  | (a, b) :: r, h => by
    simp only [memP, Bool.or_eq_true, Bool.and_eq_true] at h
    rcases h with ⟨h1, h2⟩ | h
    · rw [Nat.eq_of_beq_eq_true h1, Nat.eq_of_beq_eq_true h2]
      exact List.mem_cons_self
    · exact List.mem_cons_of_mem _ (memP_iff h)

/-! ### The run of one order -/
theorem draw_trace {E : Env} {run : Runner} : ∀ {cos : List COp} {rid : Nat} {fr : AFr} {S : St} {tr0 : List TrE} {fr' : AFr} {S' : St} {tr : List TrE}, runDraw E run cos rid fr S tr0 = some (fr', S', tr) →
    ∃ (F : Nat → AFr) (SS : Nat → St) (vv : Nat → AV), F 0 = fr ∧ SS 0 = S ∧ F cos.length = fr' ∧ SS cos.length = S' ∧ (∃ l, tr = tr0 ++ l) ∧
      ∀ i c, cos[i]? = some c → tr[tr0.length + i]? = some ⟨c, rid + i, F i, SS i, SS (i + 1), vv i⟩ ∧ (F i).put c.dst (vv i) = some (F (i + 1)) ∧
        ((wants (F i) c.guard = some false ∧ SS (i + 1) = SS i ∧ vv i = .tup []) ∨ (wants (F i) c.guard = some true ∧ doOp E run c (F i).ev (rid + i) (SS i) = some (vv i, SS (i + 1))))
  | [], rid, fr, S, tr0, fr', S', tr, h => by
    simp only [runDraw, Option.some.injEq, Prod.mk.injEq] at h
    obtain ⟨rfl, rfl, rfl⟩ := h
    exact ⟨fun _ => fr, fun _ => S, fun _ => default, rfl, rfl, rfl, rfl, ⟨[], by simp⟩, fun i c hi => by simp at hi⟩
  | o :: cos, rid, fr, S, tr0, fr', S', tr, h => by
    have key : ∀ (v : AV) (fr1 : AFr) (S1 : St), fr.put o.dst v = some fr1 → ((wants fr o.guard = some false ∧ S1 = S ∧ v = .tup []) ∨ (wants fr o.guard = some true ∧ doOp E run o fr.ev rid S = some (v, S1))) →
        runDraw E run cos (rid + 1) fr1 S1 (tr0 ++ [⟨o, rid, fr, S, S1, v⟩]) = some (fr', S', tr) →
        ∃ (F : Nat → AFr) (SS : Nat → St) (vv : Nat → AV), F 0 = fr ∧ SS 0 = S ∧ F (o :: cos).length = fr' ∧ SS (o :: cos).length = S' ∧ (∃ l, tr = tr0 ++ l) ∧
          ∀ i c, (o :: cos)[i]? = some c → tr[tr0.length + i]? = some ⟨c, rid + i, F i, SS i, SS (i + 1), vv i⟩ ∧ (F i).put c.dst (vv i) = some (F (i + 1)) ∧
            ((wants (F i) c.guard = some false ∧ SS (i + 1) = SS i ∧ vv i = .tup []) ∨ (wants (F i) c.guard = some true ∧ doOp E run c (F i).ev (rid + i) (SS i) = some (vv i, SS (i + 1)))) := by
      intro v fr1 S1 hp hs hr
      obtain ⟨F, SS, vv, e1, e2, e3, e4, ⟨l, el⟩, e5⟩ := draw_trace hr
      refine ⟨fun i => match i with | 0 => fr | i + 1 => F i, fun i => match i with | 0 => S | i + 1 => SS i, fun i => match i with | 0 => v | i + 1 => vv i, rfl, rfl, e3, e4, ⟨_, by rw [el, List.append_assoc]⟩, fun i c hi => ?_⟩
      cases i with
      | zero =>
        simp only [List.getElem?_cons_zero, Option.some.injEq] at hi
        subst hi
        refine ⟨?_, ?_, ?_⟩
        · rw [el]
          simp [e2]
        · simpa [e1] using hp
        · simpa [e2] using hs
      | succ i =>
        have := e5 i c (by simpa using hi)
        simp only [List.length_append, List.length_singleton] at this
        rw [show tr0.length + (i + 1) = tr0.length + 1 + i by omega, show rid + (i + 1) = rid + 1 + i by omega]
        exact this
    simp only [runDraw] at h
    split at h
    · cases h
    · rename_i hw
      split at h
      · rename_i fr1 hp
        exact key _ _ _ hp (.inl ⟨hw, rfl, rfl⟩) h
      · cases h
    · rename_i hw
      split at h
      · rename_i v S1 hdo
        split at h
        · rename_i fr1 hp
          exact key _ _ _ hp (.inr ⟨hw, hdo⟩) h
        · cases h
      · cases h
end Go.Eng
