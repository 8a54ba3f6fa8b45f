/-
  Any operation; a region in its one order.
-/
import Derived.Test.YtiemcnndfhbidaaGreatDoorE18
set_option linter.unusedSimpArgs false
set_option linter.unusedVariables false
set_option linter.unusedSectionVars false
namespace Go.Eng
open Go.RowKit (Below)
variable {P : Program} {B : Nat} {w0 w : World} {ρ : Pl} {S : St} {fr : AFr} {a : Act} {rid : Nat}

theorem AFr.put_n {g g' : AFr} {d : Option Nat} {v : AV} (h : g.put d v = some g') : g'.n = g.n := by
  cases d with
  | none => simp only [AFr.put, Option.some.injEq] at h; rw [← h]
  | some d =>
    simp only [AFr.put_eq] at h
    split at h
    · obtain rfl := Option.some.inj h; rfl
    · cases h
theorem AFr.put_d {g g' : AFr} {d : Option Nat} {v : AV} (h : g.put d v = some g') : g'.d = g.d := by
  cases d with
  | none => simp only [AFr.put, Option.some.injEq] at h; rw [← h]
  | some t =>
    simp only [AFr.put_eq] at h
    split at h
    · obtain rfl := Option.some.inj h; rfl
    · cases h
theorem AFr.put_rd {g g' : AFr} {d : Option Nat} {v : AV} (h : g.put d v = some g') : g'.rd = g.rd := by
  cases d with
  | none => simp only [AFr.put, Option.some.injEq] at h; rw [← h]
  | some t =>
    simp only [AFr.put_eq] at h
    split at h
    · obtain rfl := Option.some.inj h; rfl
    · cases h
theorem stay_aop {ci : CI} {ev : Opd → AV} {v : AV} (h : stay ci ev rid S = some v) : aop ci ev rid S = some (v, S) := by
  unfold stay at h
  split at h
  · rename_i z
    simp only [aop]
    split at h
    · rename_i cs root hg
      rw [hg]
      simp only []
      split at h
      · rename_i h1 h2
        simp only [h1, h2]
        exact congrArg (fun v => some (v, S)) (Option.some.inj h)
      · cases h
    · cases h
  · rename_i len z ps
    simp only [aop]
    split at h
    · rename_i cs ds root hc hg
      rw [hc]
      simp only [layRow, hg]
      split at h
      · rename_i h1 h2
        simp only [h1, h2]
        exact congrArg (fun v => some (v, S)) (Option.some.inj h)
      · cases h
    · cases h
  case h_7 => cases h
  all_goals
    simp only [Option.map_eq_some_iff] at h
    obtain ⟨⟨u, T⟩, hT, rfl⟩ := h
    obtain ⟨l, rfl, hl⟩ := aop_eff rfl hT
    cases l with
    | nil => exact hT
    | cons p l => exact absurd (hl p List.mem_cons_self) (by simp [CI.wfoot])

theorem comp_call {op : Op} {g : Opd} {xs : List Opd} (h : comp P op = some (.call g xs)) : ∃ c f, op = .call c ∧ c.callee = .value f ∧ cOpd f = some g ∧ cOpds c.args.toList = some xs := by
  cases op
  case call c =>
    simp only [comp] at h
    split at h
    · rename_i f hcal
      split at h
      · rename_i y ys hy hys
        simp only [Option.some.injEq, CI.call.injEq] at h
        obtain ⟨rfl, rfl⟩ := h
        exact ⟨c, f, rfl, hcal, hy, hys⟩
      · cases h
    · repeat' (first | (cases h; done) | (simp only [Option.some.injEq, reduceCtorEq, Option.map_eq_some_iff, and_false, exists_false] at h; done) | split at h)
    · cases h
  case makeMap t r => cases r <;> simp [comp] at h
  case next it b => cases b <;> simp [comp] at h
  all_goals (simp only [comp] at h)
  all_goals repeat' (first | (cases h; done) | (simp only [Option.some.injEq, reduceCtorEq, Option.map_eq_some_iff, and_false, exists_false] at h; done) | split at h)

theorem comp_defer {o : Op} {ci : CI} (h : comp P o = some ci) : ∀ c, o ≠ .defer c := by
  rintro c rfl
  simp [comp] at h
theorem good_wp {r : Option Nat} {o : Oper} {v : AV} {S' : St} {next : Act → World → Prop} {Q : Exit → Act → World → Prop} (h : Good P B w0 ρ S rid a w o v S') (hd : ∀ c, o.op ≠ .defer c)
    (hn : ∀ ρ' x w', Post B w0 ρ S (· = rid) ρ' S' w' → V ρ' v x → next (a.put o.dst x) w') : o.wpIn (FF r) 0 P a w next Q := by
  obtain ⟨ρ', x, w', hst, hv, hr⟩ := h
  have hsem : o.semAt (FF r).round a.eval = execOp a.eval o := Oper.semAt_eq _ _ _ hd
  refine ⟨fun _ _ => trivial, ?_⟩
  rw [hsem]
  rcases hr with hr | ⟨hr, rfl⟩
  · rw [hr, Oper.uponIn_value]
    exact hn _ _ _ hst.post hv
  · rw [hr, Oper.uponIn_skip]
    exact hn _ _ _ hst.post hv
/-- Any operation. -/
theorem op_sound {r : Option Nat} {E : Env} {run : Runner} {o : Oper} {c : COp} {v : AV} {S' : St} {next : Act → World → Prop} {Q : Exit → Act → World → Prop} (hE : E.Ok P) (hrun : RunOk P B w0 run)
    (hc : c.ci = (comp P o.op).getD .bad) (hF : FR ρ fr a) (hR : R B w0 ρ S w) (hP : CodeOk P ρ) (hf : Fresh ρ S rid) (h : doOp E run c fr.ev rid S = some (v, S'))
    (hn : ∀ ρ' x w', Post B w0 ρ S (· = rid) ρ' S' w' → V ρ' v x → next (a.put o.dst x) w') : o.wpIn (FF r) 0 P a w next Q := by
  cases hcm : comp P o.op with
  | none =>
    rw [hcm] at hc
    simp only [Option.getD_none] at hc
    unfold doOp at h
    rw [hc] at h
    cases hp : c.pre <;> simp [hp, aop, stay] at h
  | some ci =>
    rw [hcm] at hc
    simp only [Option.getD_some] at hc
    subst hc
    unfold doOp at h
    split at h
    · simp only [Option.map_eq_some_iff, Prod.mk.injEq] at h
      obtain ⟨u, hu, rfl, rfl⟩ := h
      exact good_wp (aop_sound hF hR hf hcm (stay_aop hu)) (comp_defer hcm) hn
    · rename_i f xs _ e
      rw [e] at hcm
      obtain ⟨cl, g, ho, hcal, hg, hxs⟩ := comp_call hcm
      exact acall_sound hE hrun hF hR hP ho hcal hg hxs h (fun ρ' x w' hp hv => hn ρ' x w' ⟨hp.sub, hp.r, hp.next, fun q _ f => hp.fr q id f⟩ hv)
    · exact good_wp (aop_sound hF hR hf hcm h) (comp_defer hcm) hn

/-! ### Is it wanted? -/
theorem wanted_eq {all : Array Oper} {o : Oper} {c : COp} {u : Bool} (hc : compOp P all o = some c) (hF : FR ρ fr a) (hb : wants fr c.guard = some u) : Region.wanted o (yielded all a.tmps) = u := by
  unfold compOp at hc
  split at hc
  · rename_i hg
    obtain rfl := Option.some.inj hc
    obtain rfl := Option.some.inj hb
    simp [Region.wanted, hg]
  · rename_i j b hg
    split at hc
    · rename_i d hd
      obtain rfl := Option.some.inj hc
      simp only [wants] at hb
      simp only [Region.wanted, hg, yielded, hd, Option.bind_some]
      have hv := hF.at_ d
      rw [Array.getD_eq_getD_getElem?] at hv
      cases hx : a.tmps[d]? with
      | none =>
        rw [hx] at hv
        simp only [Option.getD_none, undef] at hv
        generalize fr.get d = q at hv hb
        cases hv with
        | tup h => obtain rfl := Option.some.inj hb; rfl
        | any h => cases hb
      | some x =>
        rw [hx] at hv
        simp only [Option.getD_some] at hv
        generalize fr.get d = q at hv hb
        cases hv <;> first | (cases hb; done) | (obtain rfl := Option.some.inj hb; rfl) | skip
        rename_i c
        cases b <;> cases c <;> (obtain rfl := Option.some.inj hb; rfl)
    · cases hc
theorem compOp_spec {all : Array Oper} {o : Oper} {c : COp} (hc : compOp P all o = some c) : c.dst = o.dst ∧ c.ci = (comp P o.op).getD .bad ∧ c.pre = false := by
  unfold compOp at hc
  split at hc
  · obtain rfl := Option.some.inj hc; exact ⟨rfl, rfl, rfl⟩
  · split at hc
    · obtain rfl := Option.some.inj hc; exact ⟨rfl, rfl, rfl⟩
    · cases hc

/-- The operations of a region, in their order. -/
theorem ops_sound {r : Option Nat} {E : Env} {run : Runner} {ops : Array Oper} {Q : Exit → Act → World → Prop} (hE : E.Ok P) (hrun : RunOk P B w0 run) : ∀ (los : List Oper) (i : Nat) (cos : List COp) (rid : Nat) (fr : AFr) (S : St) (fr' : AFr) (S' : St) (ρ : Pl) (a : Act) (w : World),
    ops.toList.drop i = los → compOps P ops los = some cos → runOps E run cos rid fr S = some (fr', S') → FR ρ fr a → R B w0 ρ S w → CodeOk P ρ → (∀ q, rid ≤ q → q < rid + los.length → Fresh ρ S q) →
    (∀ ρ' a' w', Post B w0 ρ S (fun q => rid ≤ q ∧ q < rid + los.length) ρ' S' w' → FR ρ' fr' a' → fr'.rd = fr.rd → Q .normal a' w') → wpOpsIn (FF r) 0 P ops Q (List.range' i los.length) a w
  | [], i, cos, rid, fr, S, fr', S', ρ, a, w, hd, hc, h, hF, hR, hP, hf, hQ => by
    simp only [compOps, Option.some.injEq] at hc
    subst hc
    obtain ⟨rfl, rfl⟩ := Prod.mk.inj (Option.some.inj h)
    exact hQ ρ a w (.refl hR) hF rfl
  | o :: los, i, cos, rid, fr, S, fr', S', ρ, a, w, hd, hc, h, hF, hR, hP, hf, hQ => by
    simp only [compOps] at hc
    split at hc
    case h_2 => cases hc
    rename_i c cs h1 h2
    obtain rfl := Option.some.inj hc
    obtain ⟨e1, e2, e3⟩ := compOp_spec h1
    have hoi : ops[i]? = some o := by
      rw [← Array.getElem?_toList]
      have := congrArg (·[0]?) hd
      simpa using this
    have hd' : ops.toList.drop (i + 1) = los := by
      rw [← List.drop_drop (i := 1), hd]
      rfl
    rw [List.length_cons, List.range'_succ, wpOpsIn_cons]
    unfold wpOpIn
    rw [hoi]
    simp only []
    simp only [runOps] at h
    split at h
    · cases h
    · rename_i hw
      rw [wanted_eq h1 hF hw]
      simp only [Bool.false_eq_true, if_false]
      split at h
      · rename_i fr1 hp
        rw [← e1]
        refine ⟨fun _ _ => trivial, ops_sound hE hrun los (i + 1) cs (rid + 1) fr1 S fr' S' ρ _ w hd' h2 h (hF.put .undef hp) hR hP (fun q h1 h2 => hf q (by omega) (by simp; omega)) (fun ρ' a' w' hpo hF' hde => ?_)⟩
        exact hQ ρ' a' w' ⟨hpo.sub, hpo.r, hpo.next, fun q hq f => hpo.fr q (fun hq' => hq ⟨by omega, by simp; omega⟩) f⟩ hF' (hde.trans (AFr.put_rd hp))
      · cases h
    · rename_i hw
      rw [wanted_eq h1 hF hw]
      simp only [if_true]
      split at h
      · rename_i v S1 hdo
        split at h
        · rename_i fr1 hp
          refine op_sound hE hrun e2 hF hR hP (hf rid (Nat.le_refl _) (by simp)) hdo (fun ρ1 x w1 hpo hv => ?_)
          rw [← e1]
          refine ops_sound hE hrun los (i + 1) cs (rid + 1) fr1 S1 fr' S' ρ1 _ w1 hd' h2 h ((hF.mono hpo.sub).put hv hp) hpo.r (hP.sub hpo.sub) (fun q h1 h2 => hpo.fr q (by show ¬ q = rid; omega) (hf q (by omega) (by simp; omega))) (fun ρ' a' w' hpo' hF' hde => ?_)
          exact hQ ρ' a' w' (hpo.trans hpo' (fun q hq _ => by have hq : q = rid := hq; subst hq; exact ⟨Nat.le_refl _, by simp⟩) (fun q hq _ => ⟨by omega, by simp; omega⟩)) hF' (hde.trans (AFr.put_rd hp))
        · cases h
      · cases h

/-- Room for n new numbers. -/
theorem R.room (h : R B w0 ρ S w) (n : Nat) : R B w0 ρ { h := S.h, next := S.next + n } w :=
  ⟨⟨h.ok.tail, h.ok.uniq, h.ok.alone, fun id cs root pos wr al tl hg => Nat.lt_of_lt_of_le (h.ok.root id cs root pos wr al tl hg) (Nat.le_add_right _ _)⟩, h.below, h.base,
    fun id r hr => ⟨Nat.lt_of_lt_of_le (h.dom id r hr).1 (Nat.le_add_right _ _), (h.dom id r hr).2⟩, h.blk, h.fresh, h.sep⟩
theorem Fresh.room {q : Nat} (h : Fresh ρ S q) (n : Nat) : Fresh ρ { h := S.h, next := S.next + n } q := ⟨Nat.lt_of_lt_of_le h.lt (Nat.le_add_right _ _), h.un, h.rt⟩
theorem R.newFresh (h : R B w0 ρ S w) (n : Nat) {q : Nat} (h1 : S.next ≤ q) (h2 : q < S.next + n) : Fresh ρ { h := S.h, next := S.next + n } q := by
  refine ⟨h2, ?_, fun j cs pos wr al tl hg => absurd (h.ok.root j cs q pos wr al tl hg) (by omega)⟩
  cases hq : ρ q with
  | none => rfl
  | some r => exact absurd (h.dom _ _ hq).1 (by omega)
theorem compOps_length {all : Array Oper} : ∀ {l : List Oper} {cs : List COp}, compOps P all l = some cs → cs.length = l.length
  | [], cs, h => by simp only [compOps, Option.some.injEq] at h; subst h; rfl
  | o :: l, cs, h => by
    simp only [compOps] at h
    split at h
    · rename_i c r h1 h2
      obtain rfl := Option.some.inj h
      simp [compOps_length h2]
    · cases h
theorem region_sound {r : Option Nat} {E : Env} {run : Runner} {id : Nat} {ops : Array Oper} {cos : List COp} {fr' : AFr} {S' : St} (hE : E.Ok P) (hrun : RunOk P B w0 run) (hc : compOps P ops ops.toList = some cos)
    (h : runOps E run cos S.next fr { h := S.h, next := S.next + ops.size } = some (fr', S')) (hF : FR ρ fr a) (hR : R B w0 ρ S w) (hP : CodeOk P ρ) : (Code.region id ops false).wpIn (FF r) 0 P (After B w0 ρ S fr.rd .normal fr' S') a w := by
  apply wpIn_region
  rw [List.range_eq_range']
  refine ops_sound hE hrun ops.toList 0 cos S.next fr _ fr' S' ρ a w rfl hc h hF (hR.room _) hP (fun q h1 h2 => hR.newFresh _ h1 h2) (fun ρ' a' w' hp hF' hde => ?_)
  refine ⟨rfl, hde, ρ', ⟨hp.sub, hp.r, Nat.le_trans (Nat.le_add_right _ _) hp.next, fun q _ f => hp.fr q (fun hq => ?_) (f.room _)⟩, hF'⟩
  have := f.lt
  omega
end Go.Eng
