/-
  An operation, a call among them, from the abstract run to the model's.
-/
import Derived.Test.YtdlhdgdkljkofaaGreatE17
import Derived.Calls
import Derived.Orders
import Derived.LoopN
set_option linter.unusedSimpArgs false
set_option linter.unusedVariables false
set_option linter.unusedSectionVars false
namespace Go.Eng
open Go.RowKit (Below)

/-! ### Only the slots that are looked at matter -/
section
variable {fr gr : AFr}
theorem ev_congr {x : Opd} (h : ∀ t ∈ x.tmps, fr.get t = gr.get t) : fr.ev x = gr.ev x := by
  cases x with
  | t n => exact h n (by simp [Opd.tmps])
  | c v => rfl
theorem evs_congr : ∀ {xs : List Opd}, (∀ t ∈ lTmps xs, fr.get t = gr.get t) → evs fr.ev xs = evs gr.ev xs
  | [], _ => rfl
  | x :: xs, h => by
    simp only [lTmps, List.mem_append] at h
    simp only [evs, ev_congr (fun t ht => h t (.inl ht)), evs_congr (xs := xs) (fun t ht => h t (.inr ht))]
theorem ivals_congr : ∀ {xs : List Opd}, (∀ t ∈ lTmps xs, fr.get t = gr.get t) → ivals fr.ev xs = ivals gr.ev xs
  | [], _ => rfl
  | x :: xs, h => by
    simp only [lTmps, List.mem_append] at h
    simp only [ivals, ev_congr (fun t ht => h t (.inl ht)), ivals_congr (xs := xs) (fun t ht => h t (.inr ht))]
theorem bound_congr {x : Option Opd} (h : ∀ t ∈ oTmps x, fr.get t = gr.get t) : bound fr.ev x = bound gr.ev x := by
  cases x with
  | none => rfl
  | some x => simp only [bound, ev_congr (x := x) h]
theorem aFill_congr : ∀ {ps : List (Nat × Nat × Opd)} {cs : List AV}, (∀ t ∈ pTmps ps, fr.get t = gr.get t) → aFill cs fr.ev ps = aFill cs gr.ev ps
  | [], _, _ => rfl
  | (a, b, x) :: ps, cs, h => by
    simp only [pTmps, List.mem_append] at h
    simp only [aFill, ev_congr (fun t ht => h t (.inl ht)), aFill_congr (ps := ps) (fun t ht => h t (.inr ht))]
theorem aop_congr {ci : CI} {rid : Nat} {S : St} (h : ∀ t ∈ ci.tmps, fr.get t = gr.get t) : aop ci fr.ev rid S = aop ci gr.ev rid S := by
  cases ci <;> simp only [CI.tmps, List.mem_append] at h
  case alloc | mkmap | lenc | bad => rfl
  case build z ps => simp only [aop, aFill_congr h]
  case buildSl n z ps => simp only [aop, aFill_congr h]
  case mn x xs => simp only [aop, ev_congr (fun t ht => h t (.inl ht)), ivals_congr (xs := xs) (fun t ht => h t (.inr ht))]
  case mx x xs => simp only [aop, ev_congr (fun t ht => h t (.inl ht)), ivals_congr (xs := xs) (fun t ht => h t (.inr ht))]
  case mkfn f a b => simp only [aop, evs_congr (xs := a) (fun t ht => h t (.inl ht)), evs_congr (xs := b) (fun t ht => h t (.inr ht))]
  case call f xs => rfl
  case slice s x lo hi m => simp only [aop, ev_congr (fun t ht => h t (.inl ht)), bound_congr (x := lo) (fun t ht => h t (.inr (.inl ht))), bound_congr (x := hi) (fun t ht => h t (.inr (.inr (.inl ht)))), bound_congr (x := m) (fun t ht => h t (.inr (.inr (.inr ht))))]
  case slstr x lo hi => simp only [aop, ev_congr (fun t ht => h t (.inl ht)), bound_congr (x := lo) (fun t ht => h t (.inr (.inl ht))), bound_congr (x := hi) (fun t ht => h t (.inr (.inr ht)))]
  case pick c a b => simp only [aop, ev_congr (x := c) (fun t ht => h t (.inl ht)), ev_congr (x := a) (fun t ht => h t (.inr (.inl ht))), ev_congr (x := b) (fun t ht => h t (.inr (.inr ht)))]
  case mapset kk m k v => simp only [aop, ev_congr (x := m) (fun t ht => h t (.inl ht)), ev_congr (x := k) (fun t ht => h t (.inr (.inl ht))), ev_congr (x := v) (fun t ht => h t (.inr (.inr ht)))]
  case mov x | box x | load _ _ x | nilck x | addoff _ x | fld _ _ _ x | un _ x | conv _ x | clear _ x | len _ x | range x | next x | entry x | ext x _ | ifc _ x | b2s x | strid x => simp only [aop, ev_congr h]
  case store _ a x | idx _ a x | idxarr _ _ a x | bin _ a x | eqq _ _ a x | eqs _ _ a x | append _ _ _ a x | copy _ a x | lookup _ _ _ a x | del _ a x | idxv _ _ _ a x | idxs a x =>
    simp only [aop, ev_congr (x := a) (fun t ht => h t (.inl ht)), ev_congr (x := x) (fun t ht => h t (.inr ht))]
theorem stay_congr {ci : CI} {rid : Nat} {S : St} (h : ∀ t ∈ ci.tmps, fr.get t = gr.get t) : stay ci fr.ev rid S = stay ci gr.ev rid S := by
  unfold stay
  split <;> first | rfl | (rw [aop_congr h])
theorem doOp_congr {E : Env} {run : Runner} {o : COp} {rid : Nat} {S : St} (h : ∀ t ∈ o.ci.tmps, fr.get t = gr.get t) : doOp E run o fr.ev rid S = doOp E run o gr.ev rid S := by
  unfold doOp
  split
  · rw [stay_congr h]
  · rename_i f xs _ e
    rw [e] at h
    simp only [CI.tmps, List.mem_append] at h
    rw [ev_congr (x := f) (fun t ht => h t (.inl ht)), evs_congr (xs := xs) (fun t ht => h t (.inr ht))]
  · rw [aop_congr h]
theorem wants_congr {g : Option (Nat × Bool)} (h : ∀ d b, g = some (d, b) → fr.get d = gr.get d) : wants fr g = wants gr g := by
  cases g with
  | none => rfl
  | some p =>
    obtain ⟨d, b⟩ := p
    simp only [wants, h d b rfl]
end

variable {P : Program} {B : Nat} {w0 w : World} {ρ : Pl} {S : St} {fr : AFr} {a : Act} {rid : Nat}

/-- What a piece of the run leaves. -/
structure Post (B : Nat) (w0 : World) (ρ : Pl) (S : St) (ex : Nat → Prop) (ρ' : Pl) (S' : St) (w' : World) : Prop where
  sub : Sub ρ ρ'
  r : R B w0 ρ' S' w'
  next : S.next ≤ S'.next
  fr : ∀ q, ¬ ex q → Fresh ρ S q → Fresh ρ' S' q
theorem Post.refl {ex : Nat → Prop} (h : R B w0 ρ S w) : Post B w0 ρ S ex ρ S w := ⟨.refl _, h, Nat.le_refl _, fun _ _ f => f⟩
theorem Post.trans {ex ex' ex'' : Nat → Prop} {ρ1 ρ2 : Pl} {S1 S2 : St} {w1 w2 : World} (h : Post B w0 ρ S ex ρ1 S1 w1) (k : Post B w0 ρ1 S1 ex' ρ2 S2 w2) (h1 : ∀ q, ex q → q < S.next → ex'' q) (h2 : ∀ q, ex' q → q < S.next → ex'' q) :
    Post B w0 ρ S ex'' ρ2 S2 w2 :=
  ⟨h.sub.trans k.sub, k.r, Nat.le_trans h.next k.next, fun q hq f => k.fr q (fun e => hq (h2 q e f.lt)) (h.fr q (fun e => hq (h1 q e f.lt)) f)⟩
theorem Step.post {ρ' : Pl} {S' : St} {w' : World} (h : Step B w0 ρ S rid ρ' S' w') : Post B w0 ρ S (· = rid) ρ' S' w' :=
  ⟨h.sub, h.r, Nat.le_of_eq h.next.symm, fun q hq f => h.fr q hq f⟩

def xOf : AE → Exit
  | .normal => .normal
  | .exit id => .exit id
  | .ret => .ret
/-- What running a piece of code comes to. -/
def After (B : Nat) (w0 : World) (ρ : Pl) (S : St) (e : AE) (fr' : AFr) (S' : St) : Exit → Act → World → Prop :=
  fun x a' w' => x = xOf e ∧ a'.defers = [] ∧ ∃ ρ', Post B w0 ρ S (fun _ => False) ρ' S' w' ∧ FR ρ' fr' a'
def RunOk (P : Program) (B : Nat) (w0 : World) (run : Runner) : Prop :=
  ∀ (c : Code) (cc : CC) (fr : AFr) (S : St) (e : AE) (fr' : AFr) (S' : St) (ρ : Pl) (a : Act) (w : World),
    compC P c = some cc → run cc fr S = some (e, fr', S') → FR ρ fr a → R B w0 ρ S w → a.defers = [] → c.wp P (After B w0 ρ S e fr' S') a w

structure Env.Ok (P : Program) (E : Env) : Prop where
  mixed : P.follows .mixedOrders = true
  fn : ∀ g cf, E.tab g = some cf → ∃ fn, P.funcs[g]? = some fn ∧ (fn.name == "runtime.NumGoroutine") = false ∧ compFn P fn = some cf
  mnz : ∀ (n : Nat) (w : World), n ≤ 281474976710656 → ∃ cs e, (callFunc E.mnz #[.int .i64 n]).run P w = .ok (.value (.slice (some ⟨w.heap.size, 0, none⟩) n cs.size)) (w.drew.drew.alloc (.cells cs e)) ∧ n ≤ cs.size

/-! ### Frames -/
theorem fillT_get : ∀ (vs : List AV) (i : Nat) (t : Trie AV) (j : Nat), (fillT vs i t).get j = if i ≤ j ∧ j < i + vs.length then vs[j - i]? else t.get j
  | [], i, t, j => by rw [if_neg (by rw [List.length_nil]; omega)]; rfl
  | v :: vs, i, t, j => by
    rw [fillT, fillT_get vs, Trie.get_set]
    simp only [List.length_cons]
    by_cases e : i + 1 ≤ j ∧ j < i + 1 + vs.length
    · rw [if_pos e, if_pos (by omega), show j - i = (j - (i + 1)) + 1 by omega]
      simp
    · rw [if_neg e]
      by_cases ej : j = i
      · subst ej
        rw [if_pos rfl, if_pos (by omega)]
        simp
      · rw [if_neg ej, if_neg (by omega)]
theorem aframe_fr {n : Nat} {args : List AV} {xs : List Value} (h : VL ρ args xs) (hn : args.length ≤ n) (ds : List Deferred) : FR ρ (aframe n args) { tmps := xs.toArray ++ Array.replicate (n - xs.toArray.size) undef, defers := ds } := by
  have hl := h.length
  refine ⟨?_, fun t => ?_⟩
  · simp [aframe]
    omega
  · simp only [aframe, AFr.get, fillT_get, Nat.zero_le, true_and, Nat.zero_add, Nat.sub_zero]
    by_cases e : t < args.length
    · rw [if_pos e]
      obtain ⟨v, hv, hr⟩ := h.get (List.getElem?_eq_getElem e)
      rw [List.getElem?_eq_getElem e]
      have hx : t < xs.length := by omega
      have : (xs.toArray ++ Array.replicate (n - xs.toArray.size) undef).getD t undef = v := by
        rw [Array.getD_eq_getD_getElem?, Array.getElem?_append_left (by simpa using hx)]
        simp [hv]
      rw [this]
      exact hr
    · rw [if_neg e]
      have : (xs.toArray ++ Array.replicate (n - xs.toArray.size) undef).getD t undef = undef := by
        rw [Array.getD_eq_getD_getElem?, Array.getElem?_append_right (by simp; omega)]
        simp only [Array.getElem?_replicate]
        split <;> rfl
      rw [this]
      exact .undef
theorem load_run {t : TypeId} {g : Bool} {n id off : Nat} {v : AV} {r : Real} (hR : R B w0 ρ S w) (hg : aggT P t = some g) (hn : sizeT P t = some n) (hr : ρ id = some r)
    (h : loadAV g n id off S = some v) :
    ∃ x, V ρ v x ∧ (loadVar t ⟨r.b, r.sh + off, none⟩).run P w = .ok x w := by
  unfold loadAV at h
  cases g with
  | true =>
    simp only [Option.map_eq_some_iff] at h
    obtain ⟨l, hl, rfl⟩ := h
    obtain ⟨xs, h1, h2, h3⟩ := row_values hR hr hl
    refine ⟨_, .agg h1, ?_⟩
    have := run_loadCells_list (P := P) w ⟨r.b, r.sh + off, none⟩ xs (fun j v hj => by rw [add_eq]; exact h3 j v hj)
    simp [loadVar, run_aggT hg, run_sizeT hn, ← h2, this]
  | false =>
    simp only [] at h
    split at h
    · rename_i u hl
      obtain rfl := Option.some.inj h
      obtain ⟨xs, h1, h2, h3⟩ := row_values hR hr hl
      cases h1
      rename_i x xs hx hxs
      refine ⟨x, hx, ?_⟩
      have := h3 0 x rfl
      simp only [Nat.add_zero] at this
      simp [loadVar, run_aggT hg, Go.load, Sem.run, this]
    · cases h
def resRun (a : Act) : ResultVar → Sem Value
  | .tmp t => pure (a.tmps.getD t undef)
  | .cell x t => do loadVar t (← asAddr (a.tmps.getD x undef))
theorem resRun_tmp (t : Tmp) : resRun a (.tmp t) = pure (a.tmps.getD t undef) := rfl
theorem resRun_cell {x : Tmp} {t : TypeId} {ad : Addr} {v : Value} (h : a.tmps.getD x undef = .pointer (some ad)) (hr : (loadVar t ad).run P w = .ok v w) : (resRun a (.cell x t)).run P w = .ok v w := by
  show ((do loadVar t (← asAddr (a.tmps.getD x undef)) : Sem Value)).run P w = _
  rw [h]
  simp [asAddr, hr]
theorem ress_sound (hF : FR ρ fr a) (hR : R B w0 ρ S w) : ∀ {rs : List ResultVar} {cs : List CRes} {vs : List AV}, compRes P rs = some cs → ressOf fr S cs = some vs →
    ∃ xs, VL ρ vs xs ∧ (rs.mapM (resRun a)).run P w = .ok xs w
  | [], cs, vs, hc, h => by
    simp only [compRes, Option.some.injEq] at hc
    subst hc
    simp only [ressOf, Option.some.injEq] at h
    subst h
    exact ⟨[], .nil, by simp⟩
  | .tmp t :: rs, cs, vs, hc, h => by
    simp only [compRes, Option.map_eq_some_iff] at hc
    obtain ⟨l, hl, rfl⟩ := hc
    simp only [ressOf, resOf] at h
    split at h
    · rename_i v us e1 e2
      obtain rfl := Option.some.inj h
      obtain rfl := Option.some.inj e1
      obtain ⟨xs, h1, h2⟩ := ress_sound hF hR hl e2
      exact ⟨_, .cons (hF.at_ t) h1, by simp only [List.mapM_cons, Sem.run_bind, resRun_tmp, Sem.run_pure, Result.andThen, h2]⟩
    · cases h
  | .cell x t :: rs, cs, vs, hc, h => by
    simp only [compRes] at hc
    split at hc
    · rename_i g n l hg hn hl
      obtain rfl := Option.some.inj hc
      simp only [ressOf] at h
      split at h
      · rename_i v us e1 e2
        obtain rfl := Option.some.inj h
        obtain ⟨xs, h1, h2⟩ := ress_sound hF hR hl e2
        simp only [resOf] at e1
        split at e1
        · rename_i id off e
          have hv := hF.at_ x
          rw [e] at hv
          generalize hvx : a.tmps.getD x undef = vx at hv
          cases hv
          rename_i r hr
          obtain ⟨y, hy, hrun⟩ := load_run (P := P) hR hg hn hr e1
          exact ⟨_, .cons hy h1, by simp only [List.mapM_cons, Sem.run_bind, resRun_cell hvx hrun, Sem.run_pure, Result.andThen, h2]⟩
        · cases e1
      · cases h
    · cases hc
theorem results_sound {fn : Func} {cs : List CRes} {vs : List AV} (hF : FR ρ fr a) (hR : R B w0 ρ S w) (hc : compRes P fn.results.toList = some cs) (h : ressOf fr S cs = some vs) :
    ∃ x, V ρ (tupOf vs) x ∧ (results fn a.tmps).run P w = .ok x w := by
  obtain ⟨xs, h1, h2⟩ := ress_sound hF hR hc h
  have hm : (fn.results.mapM (resRun a)).run P w = .ok xs.toArray w := by
    have e : fn.results.mapM (resRun a) = List.toArray <$> fn.results.toList.mapM (resRun a) := by
      exact Array.mapM_eq_mapM_toList
    rw [e]
    simp only [map_eq_pure_bind, Sem.run_bind, h2, Result.andThen, Sem.run_pure]
  have hres : results fn a.tmps = (do
      let vs ← fn.results.mapM (resRun a)
      pure (if h : vs.size = 1 then vs[0] else .tuple vs)) := rfl
  rw [hres]
  simp only [Sem.run_bind, hm, Result.andThen, Sem.run_pure]
  cases h1 with
  | nil => exact ⟨_, .tup .nil, rfl⟩
  | cons hv ht =>
    cases ht with
    | nil => exact ⟨_, hv, rfl⟩
    | cons hv' ht' => exact ⟨_, .tup (.cons hv (.cons hv' ht')), by simp⟩

theorem args_toArray (xs ys zs : List Value) : (xs.toArray ++ ys.toArray) ++ zs.toArray = (xs ++ ys ++ zs).toArray := by simp

/-- A call of a function whose body is run. -/
theorem enter_sound {E : Env} {run : Runner} {g : Nat} {cf : CFun} {args : List AV} {xs : List Value} {e : AE} {fr' : AFr} {S' : St} {vs : List AV} (hE : E.Ok P) (hrun : RunOk P B w0 run)
    (ht : E.tab g = some cf) (hl : args.length ≤ cf.n) (h : run cf.body (aframe cf.n args) S = some (e, fr', S')) (he : ∀ id, e ≠ .exit id) (hv : ressOf fr' S' cf.res = some vs) (hx : VL ρ args xs) (hR : R B w0 ρ S w) :
    (callFunc g xs.toArray).run P w = .ok (.enter g xs.toArray) w ∧ Calls P g xs.toArray w (fun en w' => ∃ x, en = .returned x ∧ ∃ ρ', Post B w0 ρ S (fun _ => False) ρ' S' w' ∧ V ρ' (tupOf vs) x) := by
  obtain ⟨fn, hf, hname, hcf⟩ := hE.fn g cf ht
  unfold compFn at hcf
  split at hcf
  case h_2 => cases hcf
  rename_i c hb
  split at hcf
  case h_2 => cases hcf
  rename_i x r hx' hr
  obtain rfl := Option.some.inj hcf
  constructor
  · have h1 : fn.name ≠ "runtime.NumGoroutine" := by simpa using hname
    simp [callFunc, hf, h1, hb]
  · refine calls_of_wp hf hb ?_
    refine wp_mono (hrun c x _ S e fr' S' ρ _ w hx' h (aframe_fr hx hl []) hR rfl) ?_
    rintro ex a' w' ⟨rfl, hd, ρ', hp, hF'⟩
    obtain ⟨y, hy, hrs⟩ := results_sound (P := P) hF' hp.r hr hv
    cases e with
    | normal => exact ⟨hd, y, hrs, y, rfl, ρ', hp, hy⟩
    | ret => exact ⟨hd, y, hrs, y, rfl, ρ', hp, hy⟩
    | exit id => exact absurd rfl (he id)

theorem acall_sound {E : Env} {run : Runner} {o : Oper} {c : Call} {f : Operand} {p : Opd} {ps : List Opd} {v : AV} {S' : St} {next : Act → World → Prop} {Q : Exit → Act → World → Prop} (hE : E.Ok P) (hrun : RunOk P B w0 run)
    (hF : FR ρ fr a) (hR : R B w0 ρ S w) (ho : o.op = .call c) (hcal : c.callee = .value f) (hp : cOpd f = some p) (hps : cOpds c.args.toList = some ps) (h : acall E run (fr.ev p) (evs fr.ev ps) S = some (v, S'))
    (hn : ∀ ρ' x w', Post B w0 ρ S (fun _ => False) ρ' S' w' → V ρ' v x → next (a.put o.dst x) w') : o.wp P a w next Q := by
  have hv := hF.ev hp
  have hxs := hF.evs hps
  unfold acall at h
  split at h
  case h_2 => cases h
  rename_i fv g first caps e
  rw [e] at hv
  generalize hvf : a.eval f = vf at hv
  cases hv
  rename_i xs ys hfs hcs
  have hex : execOp a.eval o = callFunc g (((xs.toArray ++ (c.args.toList.map a.eval).toArray) ++ ys.toArray)) := by
    have e : c.args.map a.eval = (c.args.toList.map a.eval).toArray := Array.ext' (by simp)
    simp only [execOp, ho, resolve, hcal, e, hvf, Deferred.ofValue, pure_bind, invoke]
  rw [args_toArray] at hex
  unfold Oper.wp
  rw [hex]
  split at h
  · rename_i hg
    obtain rfl := Nat.eq_of_beq_eq_true hg
    cases hfs
    cases hcs
    unfold amnz at h
    split at h
    · rename_i n ea
      split at h
      · rename_i hle
        obtain ⟨rfl, rfl⟩ := Prod.mk.inj (Option.some.inj h)
        have hle := Nat.le_of_ble_eq_true hle
        rw [ea] at hxs
        generalize c.args.toList.map a.eval = us at hxs hex
        cases hxs
        rename_i u us' hu hus
        cases hu
        cases hus
        obtain ⟨cs, ty, hr, hsz⟩ := hE.mnz n w hle
        simp only [List.nil_append, List.append_nil]
        show Oper.upon P o a next Q ((callFunc E.mnz #[.int .i64 (n : Int)]).run P w)
        rw [hr, Oper.upon_value]
        have hR1 : R B w0 ρ { h := S.h, next := S.next + 1 } w.drew.drew := by
          have h0 := hR.drew.drew
          exact ⟨⟨h0.ok.tail, h0.ok.uniq, h0.ok.alone, fun id cs root pos wr al tl hg => Nat.lt_succ_of_lt (h0.ok.root id cs root pos wr al tl hg)⟩, h0.below, h0.base, fun id r hr => ⟨Nat.lt_succ_of_lt (h0.dom id r hr).1, (h0.dom id r hr).2⟩, h0.blk, h0.fresh, h0.sep⟩
        have hfr : Fresh ρ { h := S.h, next := S.next + 1 } S.next := by
          refine ⟨Nat.lt_succ_self _, ?_, fun j cs pos wr al tl hg => absurd (hR.ok.root j cs S.next pos wr al tl hg) (Nat.lt_irrefl _)⟩
          cases hq : ρ S.next with
          | none => rfl
          | some q => exact absurd (hR.dom _ _ hq).1 (Nat.lt_irrefl _)
        have hst := step_new (o := .cells cs ty) hR1 hfr (k := .cells (List.replicate n none) S.next 0 true true true) (tot := cs.size) ⟨rfl, rfl, rfl⟩
          ⟨cs, ty, 0, 0, by rw [alloc_get, if_pos rfl], rfl, by simpa using hsz, fun i _ _ => by omega, fun i v hi => by
            rw [List.getElem?_replicate] at hi
            split at hi <;> cases hi⟩
        refine hn _ _ _ ⟨hst.sub, hst.r, Nat.le_succ _, fun q _ hq => hst.fr q (Nat.ne_of_lt hq.lt) ⟨Nat.lt_succ_of_lt hq.lt, hq.un, hq.rt⟩⟩ ?_
        exact .sl (r := ⟨w.heap.size, 0, cs.size⟩) (upd_self _ _ _) hsz (by show 0 + 0 + cs.size * 1 ≤ cs.size; omega) (.inr rfl)
      · cases h
    · cases h
  · cases h
  · split at h
    · cases h
    · rename_i cf ht
      split at h
      · cases h
      · rename_i hle
        split at h
        · cases h
        · cases h
        · rename_i en fr' S1 hne hrn
          simp only [Option.map_eq_some_iff, Prod.mk.injEq] at h
          obtain ⟨vs, hvs, rfl, rfl⟩ := h
          obtain ⟨h1, h2⟩ := enter_sound hE hrun ht (Nat.le_of_ble_eq_true hle) hrn (fun id e => hne id (e ▸ rfl)) hvs (VL.app (VL.app hfs hxs) hcs) hR
          rw [h1, Oper.upon_enter]
          refine Calls.mono h2 ?_
          rintro en' w' ⟨x, rfl, ρ', hp', hx⟩
          exact hn ρ' x w' hp' hx
end Go.Eng
