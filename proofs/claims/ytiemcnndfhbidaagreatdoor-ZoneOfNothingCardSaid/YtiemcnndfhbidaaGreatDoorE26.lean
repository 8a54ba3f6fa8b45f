/-
  Arguments of which nothing is known but their kind.
-/
import Derived.Test.YtiemcnndfhbidaaGreatDoorE25
import Derived.ProofKit
set_option linter.unusedSimpArgs false
set_option linter.unusedVariables false
namespace Go.Eng
open Go.RowKit (Below)

def akOf (P : Program) (t : TypeId) : Option AK :=
  match P.underlying t with
  | some .bool => some .b
  | some (.int k) => some (.i k)
  | some (.slice _) => some .sl
  | some .string => some .s
  | _ => none
def aksOf (P : Program) : List TypeId → Option (List AV)
  | [] => some []
  | t :: ts => match akOf P t, aksOf P ts with
    | some k, some l => some (.any k :: l)
    | _, _ => none
def argOf (P : Program) (t : TypeId) : Option AV :=
  match P.underlying t with
  | some (.struct _) => match P.cellTypes P.depth t with
    | some ts => match Nat.beq (P.cellsOf t) ts.length with
      | true => (aksOf P ts).map .agg
      | false => none
    | none => none
  | _ => (akOf P t).map .any
theorem cell_any {P : Program} {w : World} {r : Reach} {base : Nat} {t : TypeId} {v : Value} {k : AK} (hk : akOf P t = some k) (h : Cell.okWide P w r base t v) : Any k v := by
  unfold akOf at hk
  split at hk
  · rename_i hu
    obtain rfl := Option.some.inj hk
    cases v <;> simp_all [Cell.okWide, Cell.ok, Any]
  · rename_i j hu
    obtain rfl := Option.some.inj hk
    cases v <;> simp_all [Cell.okWide, Cell.ok, Any]
  · rename_i e hu
    obtain rfl := Option.some.inj hk
    cases v <;> simp_all [Cell.okWide, Cell.ok, Any]
  · rename_i hu
    obtain rfl := Option.some.inj hk
    cases v <;> simp_all [Cell.okWide, Cell.ok, Any]
  · cases hk
theorem row_any {P : Program} {w : World} {r : Reach} {base : Nat} {ρ : Pl} : ∀ {ts : List TypeId} {l : List AV} {vs : List Value}, aksOf P ts = some l → vs.length = ts.length →
    (∀ (i : Nat) (v : Value) (t : TypeId), vs[i]? = some v → ts[i]? = some t → Cell.okWide P w r base t v) → VL ρ l vs
  | [], l, vs, h, hl, _ => by
    simp only [aksOf, Option.some.injEq] at h
    subst h
    have : vs = [] := List.eq_nil_of_length_eq_zero (by simpa using hl)
    subst this
    exact .nil
  | t :: ts, l, vs, h, hl, hc => by
    simp only [aksOf] at h
    split at h
    · rename_i k r hk hr
      obtain rfl := Option.some.inj h
      cases vs with
      | nil => simp at hl
      | cons v vs =>
        exact .cons (.any (cell_any hk (hc 0 v t rfl rfl))) (row_any hr (by simpa using hl) (fun i u s h1 h2 => hc (i + 1) u s (by simpa using h1) (by simpa using h2)))
    · cases h
theorem arg_any {P : Program} {w : World} {r : Reach} {base : Nat} {t : TypeId} {v : Value} {a : AV} {ρ : Pl} (ha : argOf P t = some a) (h : Value.okWide P w r base t v) : V ρ a v := by
  unfold argOf at ha
  split at ha
  · rename_i fs hu
    split at ha
    · rename_i ts hts
      split at ha
      · rename_i hn
        have hn := Nat.eq_of_beq_eq_true hn
        simp only [Option.map_eq_some_iff] at ha
        obtain ⟨l, hl, rfl⟩ := ha
        simp only [Value.okWide, hu] at h
        obtain ⟨cs, rfl, hsz, ts', hts', _, hcell⟩ := h
        obtain rfl := Option.some.inj (hts.symm.trans hts')
        have hlen : cs.toList.length = ts.length := by simp [hsz, hn]
        have := row_any (ρ := ρ) (vs := cs.toList) (w := w) (r := r) (base := base) hl hlen (fun i u s h1 h2 => by
          obtain ⟨u', hu', hc⟩ := hcell i u (by simpa using h1)
          have hi : i < ts.length := (List.getElem?_eq_some_iff.1 h2).1
          rw [Nat.mod_eq_of_lt hi] at hu'
          have : u' = s := Option.some.inj (hu'.symm.trans h2)
          subst this
          exact hc)
        have := V.agg this
        simpa using this
      · cases ha
    · cases ha
  · rename_i hns
    simp only [Option.map_eq_some_iff] at ha
    obtain ⟨k, hk, rfl⟩ := ha
    refine .any (cell_any (w := w) (r := r) (base := base) hk ?_)
    unfold Value.okWide at h
    unfold akOf at hk
    split at h
    · rename_i hu; rw [hu] at hk; cases hk
    · rename_i hu; rw [hu] at hk; cases hk
    · exact h
end Go.Eng
