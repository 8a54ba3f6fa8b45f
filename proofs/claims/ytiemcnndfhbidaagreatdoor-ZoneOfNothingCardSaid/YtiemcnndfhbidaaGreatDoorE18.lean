/-
  An operation, a call among them, from the abstract run to the model's.
-/
import Derived.Test.YtiemcnndfhbidaaGreatDoorE17
import Derived.CallsIn
import Derived.OrdersIn
import Derived.LoopNIn
import Derived.RangeFuncIn
import Derived.RangeFuncLeaves
import Derived.RangeFuncRecord
import Derived.RangeFuncCalls
set_option linter.unusedSimpArgs false
set_option linter.unusedVariables false
set_option linter.unusedSectionVars false
namespace Go.Eng
open Go.RowKit (Below)

/-! ### Only the slots that are looked at matter -/
section
variable {fr gr : AFr}
theorem ev_congr {x : Opd} (h : ∀ t ∈ x.tmps, fr.get t = gr.get t) : fr.ev x = gr.ev x := by
  cases x with
  | t n => exact h n (by simp [Opd.tmps])
  | c v => rfl
theorem evs_congr : ∀ {xs : List Opd}, (∀ t ∈ lTmps xs, fr.get t = gr.get t) → evs fr.ev xs = evs gr.ev xs
  | [], _ => rfl
  | x :: xs, h => by
    simp only [lTmps, List.mem_append] at h
    simp only [evs, ev_congr (fun t ht => h t (.inl ht)), evs_congr (xs := xs) (fun t ht => h t (.inr ht))]
theorem ivals_congr : ∀ {xs : List Opd}, (∀ t ∈ lTmps xs, fr.get t = gr.get t) → ivals fr.ev xs = ivals gr.ev xs
  | [], _ => rfl
  | x :: xs, h => by
    simp only [lTmps, List.mem_append] at h
    simp only [ivals, ev_congr (fun t ht => h t (.inl ht)), ivals_congr (xs := xs) (fun t ht => h t (.inr ht))]
theorem bound_congr {x : Option Opd} (h : ∀ t ∈ oTmps x, fr.get t = gr.get t) : bound fr.ev x = bound gr.ev x := by
  cases x with
  | none => rfl
  | some x => simp only [bound, ev_congr (x := x) h]
theorem aFill_congr : ∀ {ps : List (Nat × Nat × Opd)} {cs : List AV}, (∀ t ∈ pTmps ps, fr.get t = gr.get t) → aFill cs fr.ev ps = aFill cs gr.ev ps
  | [], _, _ => rfl
  | (a, b, x) :: ps, cs, h => by
    simp only [pTmps, List.mem_append] at h
    simp only [aFill, ev_congr (fun t ht => h t (.inl ht)), aFill_congr (ps := ps) (fun t ht => h t (.inr ht))]
theorem aop_congr {ci : CI} {rid : Nat} {S : St} (h : ∀ t ∈ ci.tmps, fr.get t = gr.get t) : aop ci fr.ev rid S = aop ci gr.ev rid S := by
  cases ci <;> simp only [CI.tmps, List.mem_append] at h
  case alloc | mkmap | lenc | bad => rfl
  case build z ps => simp only [aop, aFill_congr h]
  case buildSl n z ps => simp only [aop, aFill_congr h]
  case mn x xs => simp only [aop, ev_congr (fun t ht => h t (.inl ht)), ivals_congr (xs := xs) (fun t ht => h t (.inr ht)), evs_congr (xs := xs) (fun t ht => h t (.inr ht))]
  case mx x xs => simp only [aop, ev_congr (fun t ht => h t (.inl ht)), ivals_congr (xs := xs) (fun t ht => h t (.inr ht)), evs_congr (xs := xs) (fun t ht => h t (.inr ht))]
  case mkfn f a b => simp only [aop, evs_congr (xs := a) (fun t ht => h t (.inl ht)), evs_congr (xs := b) (fun t ht => h t (.inr ht))]
  case call f xs => rfl
  case slice s x lo hi m => simp only [aop, ev_congr (fun t ht => h t (.inl ht)), bound_congr (x := lo) (fun t ht => h t (.inr (.inl ht))), bound_congr (x := hi) (fun t ht => h t (.inr (.inr (.inl ht)))), bound_congr (x := m) (fun t ht => h t (.inr (.inr (.inr ht))))]
  case slarr n s x lo hi m => simp only [aop, ev_congr (fun t ht => h t (.inl ht)), bound_congr (x := lo) (fun t ht => h t (.inr (.inl ht))), bound_congr (x := hi) (fun t ht => h t (.inr (.inr (.inl ht)))), bound_congr (x := m) (fun t ht => h t (.inr (.inr (.inr ht))))]
  case slstr x lo hi => simp only [aop, ev_congr (fun t ht => h t (.inl ht)), bound_congr (x := lo) (fun t ht => h t (.inr (.inl ht))), bound_congr (x := hi) (fun t ht => h t (.inr (.inr ht)))]
  case pick c a b => simp only [aop, ev_congr (x := c) (fun t ht => h t (.inl ht)), ev_congr (x := a) (fun t ht => h t (.inr (.inl ht))), ev_congr (x := b) (fun t ht => h t (.inr (.inr ht)))]
  case mapset kk m k v => simp only [aop, ev_congr (x := m) (fun t ht => h t (.inl ht)), ev_congr (x := k) (fun t ht => h t (.inr (.inl ht))), ev_congr (x := v) (fun t ht => h t (.inr (.inr ht)))]
  case mov x | box x | load _ _ x | nilck x | addoff _ x | fld _ _ _ x | un _ x | conv _ x | clear _ x | len _ x | range x | next x | entry x | ext x _ | ifc _ x | b2s x | strid x | s2b x => simp only [aop, ev_congr h]
  case mkslice _ _ _ a x | store _ a x | idx _ a x | idxarr _ _ a x | bin _ a x | eqq _ _ a x | eqs _ _ a x | append _ _ _ a x | copy _ a x | lookup _ _ _ a x | del _ a x | idxv _ _ _ a x | idxs a x =>
    simp only [aop, ev_congr (x := a) (fun t ht => h t (.inl ht)), ev_congr (x := x) (fun t ht => h t (.inr ht))]
theorem stay_congr {ci : CI} {rid : Nat} {S : St} (h : ∀ t ∈ ci.tmps, fr.get t = gr.get t) : stay ci fr.ev rid S = stay ci gr.ev rid S := by
  unfold stay
  split <;> first | rfl | (rw [aop_congr h]) | (rw [aFill_congr h])
theorem doOp_congr {E : Env} {run : Runner} {o : COp} {rid : Nat} {S : St} (h : ∀ t ∈ o.ci.tmps, fr.get t = gr.get t) : doOp E run o fr.ev rid S = doOp E run o gr.ev rid S := by
  unfold doOp
  split
  · rw [stay_congr h]
  · rename_i f xs _ e
    rw [e] at h
    simp only [CI.tmps, List.mem_append] at h
    rw [ev_congr (x := f) (fun t ht => h t (.inl ht)), evs_congr (xs := xs) (fun t ht => h t (.inr ht))]
  · rw [aop_congr h]
theorem wants_congr {g : Option (Nat × Bool)} (h : ∀ d b, g = some (d, b) → fr.get d = gr.get d) : wants fr g = wants gr g := by
  cases g with
  | none => rfl
  | some p =>
    obtain ⟨d, b⟩ := p
    simp only [wants, h d b rfl]
end

variable {P : Program} {B : Nat} {w0 w : World} {ρ : Pl} {S : St} {fr : AFr} {a : Act} {rid : Nat}

/-- What a piece of the run leaves. -/
structure Post (B : Nat) (w0 : World) (ρ : Pl) (S : St) (ex : Nat → Prop) (ρ' : Pl) (S' : St) (w' : World) : Prop where
  sub : Sub ρ ρ'
  r : R B w0 ρ' S' w'
  next : S.next ≤ S'.next
  fr : ∀ q, ¬ ex q → Fresh ρ S q → Fresh ρ' S' q
theorem Post.refl {ex : Nat → Prop} (h : R B w0 ρ S w) : Post B w0 ρ S ex ρ S w := ⟨.refl _, h, Nat.le_refl _, fun _ _ f => f⟩
theorem Post.trans {ex ex' ex'' : Nat → Prop} {ρ1 ρ2 : Pl} {S1 S2 : St} {w1 w2 : World} (h : Post B w0 ρ S ex ρ1 S1 w1) (k : Post B w0 ρ1 S1 ex' ρ2 S2 w2) (h1 : ∀ q, ex q → q < S.next → ex'' q) (h2 : ∀ q, ex' q → q < S.next → ex'' q) :
    Post B w0 ρ S ex'' ρ2 S2 w2 :=
  ⟨h.sub.trans k.sub, k.r, Nat.le_trans h.next k.next, fun q hq f => k.fr q (fun e => hq (h2 q e f.lt)) (h.fr q (fun e => hq (h1 q e f.lt)) f)⟩
theorem Step.post {ρ' : Pl} {S' : St} {w' : World} (h : Step B w0 ρ S rid ρ' S' w') : Post B w0 ρ S (· = rid) ρ' S' w' :=
  ⟨h.sub, h.r, Nat.le_of_eq h.next.symm, fun q hq f => h.fr q hq f⟩

theorem Post.more {ρ1 ρ2 : Pl} {S1 S2 : St} {w1 w2 : World} (h : Post B w0 ρ S (fun _ => False) ρ1 S1 w1) (k : Post B w0 ρ1 S1 (fun _ => False) ρ2 S2 w2) : Post B w0 ρ S (fun _ => False) ρ2 S2 w2 :=
  h.trans k (fun _ hq _ => hq) (fun _ hq _ => hq)
def xOf : AE → Exit
  | .normal => .normal
  | .exit id => .exit id
  | .ret => .ret
/-- Every function, every depth; r: the round. -/
abbrev FF (r : Option Nat) : Fence := { fn := fun _ => True, depth := none, alive := false, round := r }
/-- What running a piece of code comes to. -/
def After (B : Nat) (w0 : World) (ρ : Pl) (S : St) (rd : Bool) (e : AE) (fr' : AFr) (S' : St) : Exit → Act → World → Prop :=
  fun x a' w' => x = xOf e ∧ fr'.rd = rd ∧ ∃ ρ', Post B w0 ρ S (fun _ => False) ρ' S' w' ∧ FR ρ' fr' a'
/-- The codes that the abstract state knows are the program's. -/
def CodeOk (P : Program) (ρ : Pl) : Prop := ρ.ok = fun c cc => compC P c = some cc
theorem CodeOk.sub {ρ ρ' : Pl} (h : CodeOk P ρ) (s : Sub ρ ρ') : CodeOk P ρ' := s.ok.trans h
def RunOk (P : Program) (B : Nat) (w0 : World) (run : Runner) : Prop :=
  ∀ (r : Option Nat) (c : Code) (cc : CC) (fr : AFr) (S : St) (e : AE) (fr' : AFr) (S' : St) (ρ : Pl) (a : Act) (w : World),
    compC P c = some cc → run cc fr S = some (e, fr', S') → FR ρ fr a → R B w0 ρ S w → CodeOk P ρ → (r = none ∨ fr.rd = true) → c.wpIn (FF r) 0 P (After B w0 ρ S fr.rd e fr' S') a w

structure Env.Ok (P : Program) (E : Env) : Prop where
  mixed : P.follows .mixedOrders = true
  fn : ∀ g cf, E.tab g = some cf → ∃ fn, P.funcs[g]? = some fn ∧ (fn.name == "runtime.NumGoroutine") = false ∧ compFn P fn = some cf
  mnz : ∀ (n : Nat) (w : World), n ≤ 281474976710656 → ∃ cs e, (callFunc E.mnz #[.int .i64 n]).run P w = .ok (.value (.slice (some ⟨w.heap.size, 0, none⟩) n cs.size)) (w.drew.drew.alloc (.cells cs e)) ∧ n ≤ cs.size
  con : ∀ g args S v S', E.con g args S = some (v, S') → ∀ (B : Nat) (w0 : World) (ρ : Pl) (w : World) (xs : List Value), VL ρ args xs → R B w0 ρ S w →
    (callFunc g xs.toArray).run P w = .ok (.enter g xs.toArray) w ∧ Calls P g xs.toArray w (fun en w' => ∃ x, en = .returned x ∧ ∃ ρ', Post B w0 ρ S (fun _ => False) ρ' S' w' ∧ V ρ' v x)

/-! ### Frames -/
theorem fillT_get : ∀ (vs : List AV) (i : Nat) (t : Trie AV) (j : Nat), (fillT vs i t).get j = if i ≤ j ∧ j < i + vs.length then vs[j - i]? else t.get j
  | [], i, t, j => by rw [if_neg (by rw [List.length_nil]; omega)]; rfl
  | v :: vs, i, t, j => by
    rw [fillT, fillT_get vs, Trie.get_set]
    simp only [List.length_cons]
    by_cases e : i + 1 ≤ j ∧ j < i + 1 + vs.length
    · rw [if_pos e, if_pos (by omega), show j - i = (j - (i + 1)) + 1 by omega]
      simp
    · rw [if_neg e]
      by_cases ej : j = i
      · subst ej
        rw [if_pos rfl, if_pos (by omega)]
        simp
      · rw [if_neg ej, if_neg (by omega)]
theorem aframe_fr {n : Nat} {args : List AV} {xs : List Value} (h : VL ρ args xs) (hn : args.length ≤ n) (ds : List Deferred) (hds : DL ρ [] ds) : FR ρ (aframe n args) { tmps := xs.toArray ++ Array.replicate (n - xs.toArray.size) undef, defers := ds } := by
  have hl := h.length
  refine ⟨?_, fun t => ?_, hds⟩
  · simp [aframe]
    omega
  · simp only [aframe, AFr.get, fillT_get, Nat.zero_le, true_and, Nat.zero_add, Nat.sub_zero]
    by_cases e : t < args.length
    · rw [if_pos e]
      obtain ⟨v, hv, hr⟩ := h.get (List.getElem?_eq_getElem e)
      rw [List.getElem?_eq_getElem e]
      have hx : t < xs.length := by omega
      have : (xs.toArray ++ Array.replicate (n - xs.toArray.size) undef).getD t undef = v := by
        rw [Array.getD_eq_getD_getElem?, Array.getElem?_append_left (by simpa using hx)]
        simp [hv]
      rw [this]
      exact hr
    · rw [if_neg e]
      have : (xs.toArray ++ Array.replicate (n - xs.toArray.size) undef).getD t undef = undef := by
        rw [Array.getD_eq_getD_getElem?, Array.getElem?_append_right (by simp; omega)]
        simp only [Array.getElem?_replicate]
        split <;> rfl
      rw [this]
      exact .undef
theorem load_run {t : TypeId} {g : Bool} {n id off : Nat} {v : AV} {r : Real} (hR : R B w0 ρ S w) (hg : aggT P t = some g) (hn : sizeT P t = some n) (hr : ρ id = some r)
    (h : loadAV g n id off S = some v) :
    ∃ x, V ρ v x ∧ (loadVar t ⟨r.b, r.sh + off, none⟩).run P w = .ok x w := by
  unfold loadAV at h
  cases g with
  | true =>
    simp only [Option.map_eq_some_iff] at h
    obtain ⟨l, hl, rfl⟩ := h
    obtain ⟨xs, h1, h2, h3⟩ := row_values hR hr hl
    refine ⟨_, .agg h1, ?_⟩
    have := run_loadCells_list (P := P) w ⟨r.b, r.sh + off, none⟩ xs (fun j v hj => by rw [add_eq]; exact h3 j v hj)
    simp [loadVar, run_aggT hg, run_sizeT hn, ← h2, this]
  | false =>
    simp only [] at h
    split at h
    · rename_i u hl
      obtain rfl := Option.some.inj h
      obtain ⟨xs, h1, h2, h3⟩ := row_values hR hr hl
      cases h1
      rename_i x xs hx hxs
      refine ⟨x, hx, ?_⟩
      have := h3 0 x rfl
      simp only [Nat.add_zero] at this
      simp [loadVar, run_aggT hg, Go.load, Sem.run, this]
    · cases h
def resRun (a : Act) : ResultVar → Sem Value
  | .tmp t => pure (a.tmps.getD t undef)
  | .cell x t => do loadVar t (← asAddr (a.tmps.getD x undef))
theorem resRun_tmp (t : Tmp) : resRun a (.tmp t) = pure (a.tmps.getD t undef) := rfl
theorem resRun_cell {x : Tmp} {t : TypeId} {ad : Addr} {v : Value} (h : a.tmps.getD x undef = .pointer (some ad)) (hr : (loadVar t ad).run P w = .ok v w) : (resRun a (.cell x t)).run P w = .ok v w := by
  show ((do loadVar t (← asAddr (a.tmps.getD x undef)) : Sem Value)).run P w = _
  rw [h]
  simp [asAddr, hr]
theorem ress_sound (hF : FR ρ fr a) (hR : R B w0 ρ S w) : ∀ {rs : List ResultVar} {cs : List CRes} {vs : List AV}, compRes P rs = some cs → ressOf fr S cs = some vs →
    ∃ xs, VL ρ vs xs ∧ (rs.mapM (resRun a)).run P w = .ok xs w
  | [], cs, vs, hc, h => by
    simp only [compRes, Option.some.injEq] at hc
    subst hc
    simp only [ressOf, Option.some.injEq] at h
    subst h
    exact ⟨[], .nil, by simp⟩
  | .tmp t :: rs, cs, vs, hc, h => by
    simp only [compRes, Option.map_eq_some_iff] at hc
    obtain ⟨l, hl, rfl⟩ := hc
    simp only [ressOf, resOf] at h
    split at h
    · rename_i v us e1 e2
      obtain rfl := Option.some.inj h
      obtain rfl := Option.some.inj e1
      obtain ⟨xs, h1, h2⟩ := ress_sound hF hR hl e2
      exact ⟨_, .cons (hF.at_ t) h1, by simp only [List.mapM_cons, Sem.run_bind, resRun_tmp, Sem.run_pure, Result.andThen, h2]⟩
    · cases h
  | .cell x t :: rs, cs, vs, hc, h => by
    simp only [compRes] at hc
    split at hc
    · rename_i g n l hg hn hl
      obtain rfl := Option.some.inj hc
      simp only [ressOf] at h
      split at h
      · rename_i v us e1 e2
        obtain rfl := Option.some.inj h
        obtain ⟨xs, h1, h2⟩ := ress_sound hF hR hl e2
        simp only [resOf] at e1
        split at e1
        · rename_i id off e
          have hv := hF.at_ x
          rw [e] at hv
          generalize hvx : a.tmps.getD x undef = vx at hv
          cases hv
          rename_i r hr
          obtain ⟨y, hy, hrun⟩ := load_run (P := P) hR hg hn hr e1
          exact ⟨_, .cons hy h1, by simp only [List.mapM_cons, Sem.run_bind, resRun_cell hvx hrun, Sem.run_pure, Result.andThen, h2]⟩
        · cases e1
      · cases h
    · cases hc
theorem results_sound {fn : Func} {cs : List CRes} {vs : List AV} (hF : FR ρ fr a) (hR : R B w0 ρ S w) (hc : compRes P fn.results.toList = some cs) (h : ressOf fr S cs = some vs) :
    ∃ x, V ρ (tupOf vs) x ∧ (results fn a.tmps).run P w = .ok x w := by
  obtain ⟨xs, h1, h2⟩ := ress_sound hF hR hc h
  have hm : (fn.results.mapM (resRun a)).run P w = .ok xs.toArray w := by
    have e : fn.results.mapM (resRun a) = List.toArray <$> fn.results.toList.mapM (resRun a) := by
      exact Array.mapM_eq_mapM_toList
    rw [e]
    simp only [map_eq_pure_bind, Sem.run_bind, h2, Result.andThen, Sem.run_pure]
  have hres : results fn a.tmps = (do
      let vs ← fn.results.mapM (resRun a)
      pure (if h : vs.size = 1 then vs[0] else .tuple vs)) := rfl
  rw [hres]
  simp only [Sem.run_bind, hm, Result.andThen, Sem.run_pure]
  cases h1 with
  | nil => exact ⟨_, .tup .nil, rfl⟩
  | cons hv ht =>
    cases ht with
    | nil => exact ⟨_, hv, rfl⟩
    | cons hv' ht' => exact ⟨_, .tup (.cons hv (.cons hv' ht')), by simp⟩

theorem args_toArray (xs ys zs : List Value) : (xs.toArray ++ ys.toArray) ++ zs.toArray = (xs ++ ys ++ zs).toArray := by simp

/-! ### Objects that are no cells -/
theorem putObj_wset (w : World) (b : Nat) (o : Obj) : w.putObj b o = wset w b o := rfl
theorem post_obj {id : Nat} {k k' : Blk} {r : Real} {o : Obj} {ex : Nat → Prop} (hR : R B w0 ρ S w) (hk : S.get id = some k) (hc : ∀ cs root pos wr al tl, k ≠ .cells cs root pos wr al tl) (hm : k.may = true) (hr : ρ id = some r)
    (hc' : ∀ cs root pos wr al tl, k' ≠ .cells cs root pos wr al tl) (hb : BlkRel ρ k' r (wset w r.b o)) : Post B w0 ρ S ex ρ (S.put id k') (wset w r.b o) := by
  refine ⟨.refl _, hR.set hk hr hm (hR.solo_obj hk hc hr) (hR.ok.obj hc') hb, Nat.le_refl _, fun q _ hq => ⟨hq.lt, hq.un, ?_⟩⟩
  intro j c p w' a' t' hj
  rw [St.get_put] at hj
  by_cases e : j = id
  · rw [if_pos e] at hj; exact absurd (Option.some.inj hj) (hc' _ _ _ _ _ _)
  · rw [if_neg e] at hj; exact hq.rt j c p w' a' t' hj
theorem R.heap_of {id : Nat} {r : Real} (hR : R B w0 ρ S w) (hr : ρ id = some r) : r.b < w.heap.size := (hR.dom id r hr).2
theorem leave_sound {F : Fence} {n : Nat} {fn : Func} {tmps : Array Value} {Rp : Ending → World → Prop} {ρ0 : Pl} {S0 : St} : ∀ {ds : List Nat} {l : List Deferred} {S S2 : St} {w : World}, DL ρ ds l → leave ds S = some S2 → Post B w0 ρ0 S0 (fun _ => False) ρ S w →
    (∀ w2, Post B w0 ρ0 S0 (fun _ => False) ρ S2 w2 → LeavesIn F n P fn tmps Rp [] .returning w2) → LeavesInM F n P fn tmps Rp l .returning w
  | _, _, S, S2, w, .nil, h, hp, hq => by
    obtain rfl := Option.some.inj h
    exact hq w hp
  | _, _, S, S2, w, .cons (id := id) (r := r) hr ht, h, hp, hq => by
    simp only [leave] at h
    split at h
    · rename_i hg
      have hb : w.heap[r.b]? = some (.deferred (some [])) := hp.r.blk id _ r hg hr
      have hpo := post_obj (ex := fun _ => False) (k' := .gone) (o := .deferred none) hp.r hg (by simp) rfl hr (by simp) trivial
      refine ⟨by simp, .inl ⟨r.b, _, rfl, run_takeDeferred hb, ?_⟩⟩
      rw [putObj_wset]
      exact leave_sound ht h (hp.trans hpo (fun q hq _ => hq) (fun q hq _ => hq)) hq
    · cases h

/-- A call of a function that is no stop. -/
theorem gcall0_sound {E : Env} {run : Runner} {g : Nat} {args : List AV} {xs : List Value} {v : AV} {S' : St} (hE : E.Ok P) (hrun : RunOk P B w0 run)
    (h : gcall0 E run g args S = some (v, S')) (hx : VL ρ args xs) (hR : R B w0 ρ S w) (hP : CodeOk P ρ) :
    (callFunc g xs.toArray).run P w = .ok (.enter g xs.toArray) w ∧ CallsIn (FF none) 0 P g xs.toArray w (fun en w' => ∃ x, en = .returned x ∧ ∃ ρ', Post B w0 ρ S (fun _ => False) ρ' S' w' ∧ V ρ' v x) := by
  unfold gcall0 at h
  split at h
  · rename_i r0 hcon
    obtain rfl := Option.some.inj h
    obtain ⟨h1, h2⟩ := hE.con _ _ _ _ _ hcon B w0 ρ w _ hx hR
    exact ⟨h1, callsIn_wide.2 h2⟩
  · split at h
    · cases h
    · rename_i cf ht
      split at h
      · cases h
      · rename_i hl
        split at h
        · cases h
        · cases h
        · rename_i e fr' S1 hne hrn
          split at h
          · cases h
          · rename_i S2 hlv
            simp only [Option.map_eq_some_iff, Prod.mk.injEq] at h
            obtain ⟨vs, hvs, rfl, rfl⟩ := h
            obtain ⟨fn, hf, hname, hcf⟩ := hE.fn g cf ht
            unfold compFn at hcf
            split at hcf
            case h_2 => cases hcf
            rename_i c hb
            split at hcf
            case h_2 => cases hcf
            rename_i x r hx' hr
            obtain rfl := Option.some.inj hcf
            constructor
            · have h1 : fn.name ≠ "runtime.NumGoroutine" := by simpa using hname
              simp [callFunc, hf, h1, hb]
            · refine callsIn_of_wp_marks hf hb trivial ?_ rfl
              refine wpIn_mono (hrun none c x _ S e fr' S1 ρ _ w hx' hrn (aframe_fr hx (Nat.le_of_ble_eq_true hl) [] .nil) hR hP (.inl rfl)) ?_
              rintro ex a' w' ⟨rfl, -, ρ', hp, hF'⟩
              have fin : LeavesInM (FF none) 0 P fn a'.tmps (fun en w' => ∃ x, en = .returned x ∧ ∃ ρ', Post B w0 ρ S (fun _ => False) ρ' S2 w' ∧ V ρ' (tupOf vs) x) a'.defers .returning w' := by
                refine leave_sound hF'.dl hlv hp (fun w2 hp2 => ?_)
                obtain ⟨y, hy, hrs⟩ := results_sound (P := P) hF' hp2.r hr hvs
                exact ⟨y, hrs, y, rfl, ρ', hp2, hy⟩
              cases e with
              | normal => exact fin
              | ret => exact fin
              | exit id => exact (hne id rfl).elim

theorem post_solo (hR : R B w0 ρ S w) (b : Bool) (args : List AV) : Post B w0 ρ S (fun _ => False) ρ (soloIf b args S) w :=
  ⟨.refl _, (hR.soloIf b args).1, Nat.le_of_eq (hR.soloIf b args).2.1.symm, fun q _ f => (hR.soloIf b args).2.2 q f⟩
theorem gcall_sound {E : Env} {run : Runner} {g : Nat} {args : List AV} {xs : List Value} {v : AV} {S' : St} (hE : E.Ok P) (hrun : RunOk P B w0 run)
    (h : gcall E run g args S = some (v, S')) (hx : VL ρ args xs) (hR : R B w0 ρ S w) (hP : CodeOk P ρ) :
    (callFunc g xs.toArray).run P w = .ok (.enter g xs.toArray) w ∧ CallsIn (FF none) 0 P g xs.toArray w (fun en w' => ∃ x, en = .returned x ∧ ∃ ρ', Post B w0 ρ S (fun _ => False) ρ' S' w' ∧ V ρ' v x) := by
  obtain ⟨h1, h2⟩ := gcall0_sound hE hrun h hx (hR.soloIf _ _).1 hP
  refine ⟨h1, h2.mono ?_⟩
  rintro en w' ⟨x, rfl, ρ', hp, hv⟩
  exact ⟨x, rfl, ρ', (post_solo hR _ _).more hp, hv⟩

theorem calls_round {r : Option Nat} {g : Nat} {args : Array Value} {Rp : Ending → World → Prop} (h : CallsIn (FF none) 0 P g args w Rp) : CallsIn (FF r) 0 P g args w Rp := by
  cases r with
  | none => exact h
  | some l => exact CallsIn.inRound l h

/-- The parameters of a round. -/
theorem putL_sound {n : Nat} : ∀ {ps : List Nat} {vs : List AV} {xs : List Value} {m m' : Trie AV} {tmps : Array Value}, putL n ps vs m = some m' → VL ρ vs xs → tmps.size = n → (∀ t, V ρ ((m.get t).getD (.tup [])) (tmps.getD t (.tuple #[]))) →
    ps.length = xs.length ∧ ((ps.zip xs).foldl (fun tmps (t, a) => tmps.setIfInBounds t a) tmps).size = n ∧ ∀ t, V ρ ((m'.get t).getD (.tup [])) (((ps.zip xs).foldl (fun tmps (t, a) => tmps.setIfInBounds t a) tmps).getD t (.tuple #[]))
  | [], [], _, m, m', tmps, h, .nil, hs, hv => by
    obtain rfl := Option.some.inj h
    exact ⟨rfl, hs, hv⟩
  | t :: ts, v :: vs, _, m, m', tmps, h, .cons (v := x) (vs := xs) hx hxs, hs, hv => by
    simp only [putL] at h
    split at h
    · rename_i hlt
      have hlt : t < n := by simpa [Nat.blt, Nat.succ_le_iff] using hlt
      obtain ⟨g1, g2, g3⟩ := putL_sound (tmps := tmps.setIfInBounds t x) h hxs (by simpa using hs) (fun u => by
        rw [Trie.get_set]
        by_cases e : u = t
        · subst e
          rw [if_pos rfl]
          have : u < tmps.size := by omega
          simpa [Array.getD_eq_getD_getElem?, this] using hx
        · rw [if_neg e]
          have := hv u
          simpa [Array.getD_eq_getD_getElem?, Array.getElem?_setIfInBounds_ne (Ne.symm e)] using this)
      exact ⟨by simp [g1], g2, g3⟩
    · cases h
  | [], _ :: _, _, m, m', tmps, h, _, hs, hv => by cases h
  | _ :: _, [], _, m, m', tmps, h, _, hs, hv => by cases h

theorem acall_sound {r : Option Nat} {E : Env} {run : Runner} {o : Oper} {c : Call} {f : Operand} {p : Opd} {ps : List Opd} {v : AV} {S' : St} {next : Act → World → Prop} {Q : Exit → Act → World → Prop} (hE : E.Ok P) (hrun : RunOk P B w0 run)
    (hF : FR ρ fr a) (hR : R B w0 ρ S w) (hP : CodeOk P ρ) (ho : o.op = .call c) (hcal : c.callee = .value f) (hp : cOpd f = some p) (hps : cOpds c.args.toList = some ps) (h : acall E run (fr.ev p) (evs fr.ev ps) S = some (v, S'))
    (hn : ∀ ρ' x w', Post B w0 ρ S (fun _ => False) ρ' S' w' → V ρ' v x → next (a.put o.dst x) w') : o.wpIn (FF r) 0 P a w next Q := by
  have hv := hF.ev hp
  have hxs := hF.evs hps
  have hsem : o.semAt (FF r).round a.eval = execOp a.eval o := Oper.semAt_eq _ _ _ (fun c' h' => by rw [ho] at h'; cases h')
  refine ⟨fun _ _ => trivial, ?_⟩
  rw [hsem]
  unfold acall at h
  split at h
  case h_3 => cases h
  · rename_i fv g first caps e
    rw [e] at hv
    generalize hvf : a.eval f = vf at hv
    cases hv
    rename_i xs ys hfs hcs
    have hex : execOp a.eval o = callFunc g (((xs.toArray ++ (c.args.toList.map a.eval).toArray) ++ ys.toArray)) := by
      have e : c.args.map a.eval = (c.args.toList.map a.eval).toArray := Array.ext' (by simp)
      simp only [execOp, ho, resolve, hcal, e, hvf, Deferred.ofValue, pure_bind, invoke]
    rw [args_toArray] at hex
    rw [hex]
    split at h
    · rename_i hg
      obtain rfl := Nat.eq_of_beq_eq_true hg
      cases hfs
      cases hcs
      unfold amnz at h
      split at h
      · rename_i n ea
        split at h
        · rename_i hle
          obtain ⟨rfl, rfl⟩ := Prod.mk.inj (Option.some.inj h)
          have hle := Nat.le_of_ble_eq_true hle
          rw [ea] at hxs
          generalize c.args.toList.map a.eval = us at hxs hex
          cases hxs
          rename_i u us' hu hus
          cases hu
          cases hus
          obtain ⟨cs, ty, hr, hsz⟩ := hE.mnz n w hle
          simp only [List.nil_append, List.append_nil]
          show Oper.uponIn (FF r) 0 P o a next Q ((callFunc E.mnz #[.int .i64 (n : Int)]).run P w)
          rw [hr, Oper.uponIn_value]
          have hR1 : R B w0 ρ { h := S.h, next := S.next + 1 } w.drew.drew := by
            have h0 := hR.drew.drew
            exact ⟨⟨h0.ok.tail, h0.ok.uniq, h0.ok.alone, fun id cs root pos wr al tl hg => Nat.lt_succ_of_lt (h0.ok.root id cs root pos wr al tl hg)⟩, h0.below, h0.base, fun id r hr => ⟨Nat.lt_succ_of_lt (h0.dom id r hr).1, (h0.dom id r hr).2⟩, h0.blk, h0.fresh, h0.sep⟩
          have hfr : Fresh ρ { h := S.h, next := S.next + 1 } S.next := by
            refine ⟨Nat.lt_succ_self _, ?_, fun j cs pos wr al tl hg => absurd (hR.ok.root j cs S.next pos wr al tl hg) (Nat.lt_irrefl _)⟩
            cases hq : ρ S.next with
            | none => rfl
            | some q => exact absurd (hR.dom _ _ hq).1 (Nat.lt_irrefl _)
          have hst := step_new (o := .cells cs ty) hR1 hfr (k := .cells (List.replicate n none) S.next 0 true true true) (tot := cs.size) ⟨rfl, rfl, rfl⟩
            ⟨cs, ty, 0, 0, by rw [alloc_get, if_pos rfl], rfl, by simpa using hsz, fun i _ _ => by omega, fun i v hi => by
              rw [List.getElem?_replicate] at hi
              split at hi <;> cases hi⟩
          refine hn _ _ _ ⟨hst.sub, hst.r, Nat.le_succ _, fun q _ hq => hst.fr q (Nat.ne_of_lt hq.lt) ⟨Nat.lt_succ_of_lt hq.lt, hq.un, hq.rt⟩⟩ ?_
          exact .sl (r := ⟨w.heap.size, 0, cs.size⟩) (upd_self _ _ _) hsz (by show 0 + 0 + cs.size * 1 ≤ cs.size; omega) (.inr rfl)
        · cases h
      · cases h
    · cases h
    · obtain ⟨h1, h2⟩ := gcall_sound hE hrun h (VL.app (VL.app hfs hxs) hcs) hR hP
      rw [h1, Oper.uponIn_enter]
      refine ⟨fun h => (by cases h), calls_round (h2.mono ?_)⟩
      rintro en' w' ⟨x, rfl, ρ', hp', hx⟩
      exact hn ρ' x w' hp' hx
  · rename_i fv l e
    rw [e] at hv
    generalize hvf : a.eval f = vf at hv
    cases hv
    rename_i rr hrr
    have hex : execOp a.eval o = Instr.yield rr.b (c.args.toList.map a.eval).toArray := by
      have e : c.args.map a.eval = (c.args.toList.map a.eval).toArray := Array.ext' (by simp)
      simp only [execOp, ho, resolve, hcal, e, hvf, Deferred.ofValue, pure_bind, invoke, Array.empty_append, Array.append_empty]
    rw [hex]
    unfold ycall at h
    split at h
    case h_2 => cases h
    rename_i n m qs ca cb hg
    split at h
    case h_1 => cases h
    rename_i m1 hput
    split at h
    case h_2 => cases h
    rename_i fr1 S1 hra
    split at h
    case h_2 => cases h
    rename_i n1 m1' ps1 ca1 cb1 hg1
    split at h
    case h_2 => cases h
    rename_i fr2 S2 hrb
    split at h
    case h_2 => cases h
    rename_i n2 m2 ps2 ca2 cb2 hg2
    obtain ⟨rfl, rfl⟩ := Prod.mk.inj (Option.some.inj h)
    obtain ⟨fn, tmps, assign, body, D, hh, hsz, hfv, hca, hcb⟩ := hR.blk l _ rr hg hrr
    obtain ⟨k1, k2, k3⟩ := putL_sound hput hxs hsz hfv
    rw [run_yield hh (by simpa using k1.symm)]
    rw [Oper.uponIn_round]
    refine ⟨fun h => (by cases h), ?_⟩
    have hfold : ((qs.toArray.zip (c.args.toList.map a.eval).toArray).foldl (fun tmps (t, a) => tmps.setIfInBounds t a) tmps) = ((qs.zip (c.args.toList.map a.eval)).foldl (fun tmps (t, a) => tmps.setIfInBounds t a) tmps) := by
      rw [← Array.foldl_toList]; simp
    refine roundIn_of_wpIn trivial ?_
    show Code.wpIn (FF (some rr.b)) 0 P assign _ { tmps := ((qs.toArray.zip (c.args.toList.map a.eval).toArray).foldl (fun tmps (t, a) => tmps.setIfInBounds t a) tmps), defers := [] } w
    rw [hfold]
    have hF0 : FR ρ ⟨n, m1, [], true⟩ { tmps := ((qs.zip (c.args.toList.map a.eval)).foldl (fun tmps (t, a) => tmps.setIfInBounds t a) tmps), defers := [] } := ⟨k2, k3, .nil⟩
    have hca' : compC P assign = some ca := by rw [hP] at hca; exact hca
    have hcb' : compC P body = some cb := by rw [hP] at hcb; exact hcb
    refine wpIn_mono (hrun (some rr.b) assign ca _ S .normal fr1 S1 ρ _ w hca' hra hF0 hR hP (.inr rfl)) ?_
    rintro ex a1 w1 ⟨rfl, hrd1, ρ1, hp1, hF1⟩
    have hrr1 := hp1.sub _ _ hrr
    obtain ⟨fn1, tmps1, assign1, body1, D1, hh1, hsz1, hfv1, hca1, hcb1⟩ := hp1.r.blk l _ rr hg1 hrr1
    show ∃ w₂, (Instr.beginRound rr.b).run P w1 = .ok () w₂ ∧ _
    refine ⟨_, run_beginRound hh1 rfl, ?_⟩
    rw [putObj_wset]
    have hpo1 := post_obj (ex := fun _ => False) (k' := .loop true n1 m1' ps1 ca1 cb1) (o := .loop { state := .busy, pending := none, fn := fn1, tmps := tmps1, params := ps1.toArray, assign := assign1, body := body1, defers := D1 }) hp1.r hg1 (by simp) rfl hrr1 (by simp)
      ⟨fn1, tmps1, assign1, body1, D1, by rw [wset_get, if_pos rfl, if_pos (hp1.r.heap_of hrr1)], hsz1, hfv1, hca1, hcb1⟩
    refine wpIn_mono (hrun (some rr.b) body cb fr1 _ .normal fr2 S2 ρ1 a1 _ hcb' hrb hF1 hpo1.r (hP.sub hp1.sub) (.inr hrd1)) ?_
    rintro ex a2 w2 ⟨rfl, -, ρ2, hp2, hF2⟩
    have hrr2 := hp2.sub _ _ hrr1
    obtain ⟨fn2, tmps2, assign2, body2, D2, hh2, hsz2, hfv2, hca2, hcb2⟩ := hp2.r.blk l _ rr hg2 hrr2
    refine ⟨_, _, run_endRound none hh2, ?_⟩
    rw [putObj_wset]
    have hpo2 := post_obj (ex := fun _ => False) (k' := .loop false n2 m2 ps2 ca2 cb2) (o := .loop { state := .ready, pending := none, fn := fn2, tmps := tmps2, params := ps2.toArray, assign := assign2, body := body2, defers := D2 }) hp2.r hg2 (by simp) rfl hrr2 (by simp)
      ⟨fn2, tmps2, assign2, body2, D2, by rw [wset_get, if_pos rfl, if_pos (hp2.r.heap_of hrr2)], hsz2, hfv2, hca2, hcb2⟩
    exact hn ρ2 (.bool true) _ (((hp1.more hpo1).more hp2).more hpo2) .bool

end Go.Eng
