/-
  Operations that leave memory alone are carried out alike.
-/
import Derived.Test.YtiemcnndfhbidaaGreatDoorE5
import Derived.Laws.StructEq
namespace Go.Eng
open Go.RowKit (Below)
variable {P : Program} {B : Nat} {w0 w : World} {ρ : Pl} {S : St} {fr : AFr} {a : Act} {rid : Nat}

/-- The operation is carried out, and what it leaves is what the abstract one says. -/
def Good (P : Program) (B : Nat) (w0 : World) (ρ : Pl) (S : St) (rid : Nat) (a : Act) (w : World) (o : Oper) (v : AV) (S' : St) : Prop :=
  ∃ ρ' x w', Step B w0 ρ S rid ρ' S' w' ∧ V ρ' v x ∧ Ran ((execOp a.eval o).run P w) x w'

theorem good_same {o : Oper} {v : AV} {x : Value} (hR : R B w0 ρ S w) (hv : V ρ v x) (h : (execOp a.eval o).run P w = .ok (.value x) w) : Good P B w0 ρ S rid a w o v S :=
  ⟨ρ, x, w, .same hR, hv, .inl h⟩
theorem run_v {s : Sem Value} {x : Value} {w w' : World} (h : s.run P w = .ok x w') : (do let r ← s; Pure.pure (Next.value r) : Sem Next).run P w = .ok (.value x) w' := by
  simp [h, Result.andThen]
theorem run_u {s : Sem Unit} {w w' : World} (h : s.run P w = .ok () w') : (do s; Pure.pure Next.skip : Sem Next).run P w = .ok .skip w' := by
  simp [h, Result.andThen]
theorem good_val {o : Oper} {s : Sem Value} {v : AV} {x : Value} (hR : R B w0 ρ S w) (he : execOp a.eval o = (do let r ← s; Pure.pure (Next.value r))) (hv : V ρ v x) (h : s.run P w = .ok x w) : Good P B w0 ρ S rid a w o v S :=
  good_same hR hv (by rw [he]; exact run_v h)

theorem add_eq (b o n : Nat) : (⟨b, o, none⟩ : Addr).add n = ⟨b, o + n, none⟩ := by
  unfold Addr.add
  by_cases h : n = 0
  · simp [h]
  · simp [h]
theorem run_sizeT {t : TypeId} {n : Nat} (h : sizeT P t = some n) (w : World) : (sizeOf t).run P w = .ok n w := by
  unfold sizeT at h
  cases hi : P.info? t with
  | none => simp [hi] at h
  | some i => simp [hi] at h; simp [sizeOf, typeInfo, hi, h, Result.andThen]
theorem run_aggT {t : TypeId} {g : Bool} (h : aggT P t = some g) (w : World) : (isAgg t).run P w = .ok g w := by
  unfold aggT at h
  cases hu : P.underlying t with
  | none => simp [hu] at h
  | some d => rw [hu] at h; simp only [Option.map_some, Option.some.injEq] at h; subst h; cases d <;> simp [isAgg, run_underlying hu, Result.andThen]

section
variable {o : Oper} {x y : Operand} {p q : Opd} (hF : FR ρ fr a) (hR : R B w0 ρ S w)
include hF hR

theorem sound_mov (ho : o.op = .move x ∨ o.op = .assign x) (hx : cOpd x = some p) : Good P B w0 ρ S rid a w o (fr.ev p) S := by
  refine good_same hR (hF.ev hx) ?_
  rcases ho with ho | ho <;> simp [execOp, ho]
theorem sound_pick {c : Operand} {r : Opd} {v : AV} (ho : o.op = .pick c x y) (hc : cOpd c = some r) (hx : cOpd x = some p) (hy : cOpd y = some q)
    (h : aop (.pick r p q) fr.ev rid S = some (v, S)) : Good P B w0 ρ S rid a w o v S := by
  have hv := hF.ev hc
  simp only [aop] at h
  split at h
  · rename_i e
    rw [e] at hv
    generalize hcv : a.eval c = cv at hv
    cases hv
    obtain ⟨rfl, -⟩ := Prod.mk.inj (Option.some.inj h)
    refine good_same hR (hF.ev hx) ?_
    simp [execOp, ho, hcv, asBool]
  · rename_i e
    rw [e] at hv
    generalize hcv : a.eval c = cv at hv
    cases hv
    obtain ⟨rfl, -⟩ := Prod.mk.inj (Option.some.inj h)
    refine good_same hR (hF.ev hy) ?_
    simp [execOp, ho, hcv, asBool]
  · cases h
theorem sound_nilck {v : AV} {S' : St} (ho : o.op = .nilCheck x) (hx : cOpd x = some p) (h : aop (.nilck p) fr.ev rid S = some (v, S')) : Good P B w0 ρ S rid a w o v S' := by
  have hv := hF.ev hx
  simp only [aop] at h
  have he : ∀ u : Value, a.eval x = u → (match u with
      | .pointer none | .nilIface | .nilFunc => False
      | .func (.method _) _ _ => False
      | _ => True) → (execOp a.eval o).run P w = .ok (.value u) w := by
    intro u hu hm
    simp only [execOp, ho, hu]
    cases u <;> first | (simp; done) | (exact hm.elim) | skip
    · rename_i ad
      cases ad with
      | none => exact hm.elim
      | some ad => simp
    · rename_i f as bs
      cases f <;> first | (simp; done) | exact hm.elim
  split at h
  · rename_i id off e
    obtain ⟨rfl, rfl⟩ := Prod.mk.inj (Option.some.inj h)
    rw [e] at hv
    refine good_same hR hv (he _ rfl ?_)
    generalize a.eval x = vx at *
    cases hv
    trivial
  · rename_i f as bs e
    obtain ⟨rfl, rfl⟩ := Prod.mk.inj (Option.some.inj h)
    rw [e] at hv
    refine good_same hR hv (he _ rfl ?_)
    generalize a.eval x = vx at *
    cases hv
    trivial
  · rename_i t u e
    obtain ⟨rfl, rfl⟩ := Prod.mk.inj (Option.some.inj h)
    rw [e] at hv
    refine good_same hR hv (he _ rfl ?_)
    generalize a.eval x = vx at *
    cases hv
    trivial
  · cases h
theorem sound_addoff {v : AV} {S' : St} {t : TypeId} {f : Nat} {fields : Array Field} {fd : Field} {n : Nat} (ho : o.op = .fieldAddr t x f) (hu : P.underlying t = some (.struct fields)) (hf : fields[f]? = some fd)
    (hn : sizeT P fd.type = some (n + 1)) (hx : cOpd x = some p) (h : aop (.addoff fd.offset p) fr.ev rid S = some (v, S')) : Good P B w0 ρ S rid a w o v S' := by
  have hv := hF.ev hx
  simp only [aop] at h
  split at h
  · rename_i id off e
    obtain ⟨rfl, rfl⟩ := Prod.mk.inj (Option.some.inj h)
    rw [e] at hv
    generalize hvx : a.eval x = vx at hv
    cases hv
    rename_i r hr
    refine good_same hR (.ptr (r := r) hr) ?_
    simp [execOp, ho, hvx, Instr.fieldAt, Instr.sureAddr, run_underlying hu, hf, fieldPlace, run_sizeT hn, add_eq, Nat.add_assoc]
  · cases h
theorem sound_idx {v : AV} {S' : St} {t e : TypeId} {n : Nat} (ho : o.op = .indexAddr t x y) (hu : P.underlying t = some (.slice e)) (hn : sizeT P e = some n)
    (hx : cOpd x = some p) (hy : cOpd y = some q) (h : aop (.idx n p q) fr.ev rid S = some (v, S')) : Good P B w0 ρ S rid a w o v S' := by
  have hv := hF.ev hx
  have hi := hF.ev hy
  simp only [aop] at h
  split at h
  · rename_i id off len cap k i e1 e2
    split at h
    · rename_i hd
      obtain ⟨rfl, rfl⟩ := Prod.mk.inj (Option.some.inj h)
      have hd := of_decide_eq_true hd
      rw [e1] at hv
      rw [e2] at hi
      generalize hvx : a.eval x = vx at hv
      generalize hvy : a.eval y = vy at hi
      cases hi
      cases hv
      rename_i c r ad hr hc had hfit
      have had := had.resolve_left (by omega)
      subst had
      refine good_same hR (.ptr (r := r) hr) ?_
      simp only [execOp, ho, hvx, hvy]
      refine run_v ?_
      simp only [Instr.indexAt, asIntOf, Sem.run_bind, Sem.run_pure, Result.andThen, run_underlying hu, hd, and_self, if_true, run_sizeT hn, add_eq, Nat.add_assoc]
    · cases h
  · cases h
theorem sound_idxarr {v : AV} {S' : St} {t e : TypeId} {n len : Nat} (ho : o.op = .indexAddr t x y) (hu : P.underlying t = some (.array len e)) (hn : sizeT P e = some n)
    (hx : cOpd x = some p) (hy : cOpd y = some q) (h : aop (.idxarr len n p q) fr.ev rid S = some (v, S')) : Good P B w0 ρ S rid a w o v S' := by
  have hv := hF.ev hx
  have hi := hF.ev hy
  simp only [aop] at h
  split at h
  · rename_i id off k i e1 e2
    split at h
    · rename_i hd
      obtain ⟨rfl, rfl⟩ := Prod.mk.inj (Option.some.inj h)
      have hd := of_decide_eq_true hd
      rw [e1] at hv
      rw [e2] at hi
      generalize hvx : a.eval x = vx at hv
      generalize hvy : a.eval y = vy at hi
      cases hi
      cases hv
      rename_i r hr
      refine good_same hR (.ptr (r := r) hr) ?_
      simp only [execOp, ho, hvx, hvy]
      refine run_v ?_
      simp [Instr.indexAt, asIntOf, run_underlying hu, Instr.sureAddr, hd, run_sizeT hn, add_eq, Nat.add_assoc]
    · cases h
  · cases h
theorem sound_fld {v : AV} {S' : St} {t : TypeId} {f : Nat} {fields : Array Field} {fd : Field} {n : Nat} {g : Bool} (ho : o.op = .field t x f) (hu : P.underlying t = some (.struct fields)) (hf : fields[f]? = some fd)
    (hg : aggT P fd.type = some g) (hn : sizeT P fd.type = some n) (hx : cOpd x = some p) (h : aop (.fld g fd.offset n p) fr.ev rid S = some (v, S')) : Good P B w0 ρ S rid a w o v S' := by
  have hv := hF.ev hx
  simp only [aop] at h
  split at h
  · rename_i cs e
    rw [e] at hv
    generalize hvx : a.eval x = vx at hv
    cases hv
    rename_i xs hxs
    cases g with
    | true =>
      obtain ⟨rfl, rfl⟩ := Prod.mk.inj (Option.some.inj h)
      have := V.agg ((hxs.drop fd.offset).take n)
      refine good_same hR this ?_
      simp only [execOp, ho, hvx]
      refine run_v ?_
      simp [Instr.field, run_underlying hu, hf, part, run_aggT hg, asAgg, run_sizeT hn, List.take_drop]
    | false =>
      simp only [] at h
      split at h
      · rename_i u hcu
        obtain ⟨rfl, rfl⟩ := Prod.mk.inj (Option.some.inj h)
        obtain ⟨z, hz, hvz⟩ := hxs.get hcu
        refine good_same hR hvz ?_
        simp only [execOp, ho, hvx]
        refine run_v ?_
        simp [Instr.field, run_underlying hu, hf, part, run_aggT hg, asAgg, hz]
      · cases h
  · cases h
theorem sound_ext {v : AV} {S' : St} {i : Nat} (ho : o.op = .extract x i) (hx : cOpd x = some p) (h : aop (.ext p i) fr.ev rid S = some (v, S')) : Good P B w0 ρ S rid a w o v S' := by
  have hv := hF.ev hx
  simp only [aop] at h
  split at h
  · rename_i vs e
    split at h
    · rename_i u hu
      obtain ⟨rfl, rfl⟩ := Prod.mk.inj (Option.some.inj h)
      rw [e] at hv
      generalize hvx : a.eval x = vx at hv
      cases hv
      rename_i xs hxs
      obtain ⟨z, hz, hvz⟩ := hxs.get hu
      refine good_same hR hvz ?_
      simp [execOp, ho, hvx, Instr.extract, hz]
    · cases h
  · cases h
theorem sound_ifc {v : AV} {S' : St} {t : TypeId} {d : TypeDesc} (ho : o.op = .makeInterface t x) (hu : P.underlying t = some d) (hd : ∀ ms, d ≠ .interface ms) (hx : cOpd x = some p)
    (h : aop (.ifc t p) fr.ev rid S = some (v, S')) : Good P B w0 ρ S rid a w o v S' := by
  obtain ⟨rfl, rfl⟩ := Prod.mk.inj (Option.some.inj h)
  refine good_same hR (.ifc (hF.ev hx)) ?_
  simp only [execOp, ho]
  refine run_v ?_
  simp only [Instr.makeInterface, Sem.run_bind, run_underlying hu, Result.andThen]
  first | rfl | (split <;> first | rfl | exact absurd rfl (hd _))
theorem sound_mkfn {v : AV} {S' : St} {f : Fn} {first caps : Array Operand} {l r : List Opd} (ho : o.op = .makeFunc f first caps) (hl : cOpds first.toList = some l) (hr : cOpds caps.toList = some r)
    (h : aop (.mkfn f l r) fr.ev rid S = some (v, S')) : Good P B w0 ρ S rid a w o v S' := by
  obtain ⟨rfl, rfl⟩ := Prod.mk.inj (Option.some.inj h)
  have := V.fn (f := f) (hF.evs hl) (hF.evs hr)
  refine good_same hR this ?_
  simp only [execOp, ho]
  refine run_v ?_
  simp only [Instr.makeFunc, Sem.run_pure, Result.ok.injEq, Value.func.injEq, true_and, and_true]
  exact ⟨Array.ext' (by simp), Array.ext' (by simp)⟩
end
end Go.Eng
