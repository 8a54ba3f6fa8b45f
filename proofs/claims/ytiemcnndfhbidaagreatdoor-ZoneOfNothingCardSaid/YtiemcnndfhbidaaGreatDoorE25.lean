/-
  A run with unknown tests; the functions of a program all at once; the start.
-/
import Derived.Test.YtiemcnndfhbidaaGreatDoorE28
import Derived.Lib.MakeNoZero
import Derived.Laws.Externs
set_option linter.unusedSimpArgs false
set_option linter.unusedVariables false
set_option linter.unusedSectionVars false
namespace Go.Eng
open Go.RowKit (Below)

/-! ### All that a table holds -/
def Trie.All {α : Type} (p : Nat → α → Prop) : Trie α → (Nat → Nat) → Prop
  | .nil, _ => True
  | .node v l r, k => (∀ c, v = some c → p (k 0) c) ∧ Trie.All p l (fun m => k (2 * m + 1)) ∧ Trie.All p r (fun m => k (2 * m + 2))
theorem Trie.All.get {α : Type} {p : Nat → α → Prop} : ∀ {t : Trie α} {k : Nat → Nat} {n : Nat} {c : α}, Trie.All p t k → t.get n = some c → p (k n) c
  | .nil, _, _, _, _, h => by cases h
  | .node v l r, k, n, c, ⟨h0, h1, h2⟩, h => by
    rw [Trie.get_node] at h
    by_cases e : n = 0
    · rw [if_pos e] at h
      subst e
      exact h0 c h
    · rw [if_neg e] at h
      by_cases e1 : n % 2 = 1
      · rw [if_pos e1] at h
        have := Trie.All.get h1 h
        rwa [show 2 * (n / 2) + 1 = n by omega] at this
      · rw [if_neg e1] at h
        have := Trie.All.get h2 h
        rwa [show 2 * (n / 2 - 1) + 2 = n by omega] at this
theorem Trie.all_nil {α : Type} {p : Nat → α → Prop} {k : Nat → Nat} : Trie.All p .nil k := trivial
theorem Trie.all_none {α : Type} {p : Nat → α → Prop} {k : Nat → Nat} {l r : Trie α} (h1 : Trie.All p l (fun m => k (2 * m + 1))) (h2 : Trie.All p r (fun m => k (2 * m + 2))) : Trie.All p (.node none l r) k :=
  ⟨fun _ h => (by cases h), h1, h2⟩
theorem Trie.all_some {α : Type} {p : Nat → α → Prop} {k : Nat → Nat} {l r : Trie α} {c : α} (h0 : p (k 0) c) (h1 : Trie.All p l (fun m => k (2 * m + 1))) (h2 : Trie.All p r (fun m => k (2 * m + 2))) : Trie.All p (.node (some c) l r) k :=
  ⟨fun _ h => (by cases h; exact h0), h1, h2⟩
def FnOk (P : Program) (g : Nat) (cf : CFun) : Prop := ∃ fn, P.funcs[g]? = some fn ∧ (fn.name == "runtime.NumGoroutine") = false ∧ compFn P fn = some cf
theorem mnz_ok {P : Program} {g : Nat} {fn : Func} {ps : Array TypeId} {t e : TypeId} (hf : P.funcs[g]? = some fn) (hname : (fn.name == "runtime.NumGoroutine") = false) (hb : fn.body.isNone = true) (hn : Extern.findNext fn = none)
    (he : Extern.find fn = some (Extern.BytealgMakeNoZero.makeNoZero ps #[t])) (ht : P.underlying t = some (.slice e)) (n : Nat) (w : World) (hle : n ≤ 281474976710656) :
    ∃ cs e, (callFunc g #[.int .i64 n]).run P w = .ok (.value (.slice (some ⟨w.heap.size, 0, none⟩) n cs.size)) (w.drew.drew.alloc (.cells cs e)) ∧ n ≤ cs.size := by
  obtain ⟨cs, h1, h2, _⟩ := Lib.run_makeNoZero (P := P) w ps t e ht n hle
  refine ⟨cs, e, ?_, h2⟩
  rw [run_callFunc_extern hf hname hb hn he, h1]
  rfl

/-! ### The start -/
theorem R.start (w : World) (ok : Code → CC → Prop) (th : Nat → Nat) : R w.heap.size w ⟨fun _ => none, ok, th⟩ ⟨.nil, 0⟩ w := by
  have no : ∀ id k, (⟨.nil, 0⟩ : St).get id ≠ some k := fun id k h => by cases h
  refine ⟨⟨?_, ?_, ?_, ?_⟩, Below.refl _ w, Nat.le_refl _, ?_, ?_, ?_, ?_⟩
  · intro id cs root pos wr al h; exact absurd h (no _ _)
  · intro id cs root pos wr al h; exact absurd h (no _ _)
  · intro id cs root pos wr tl h; exact absurd h (no _ _)
  · intro id cs root pos wr al tl h; exact absurd h (no _ _)
  · intro id r h; cases h
  · intro id k r h; exact absurd h (no _ _)
  · intro id k r h; exact absurd h (no _ _)
  · intro id k r id' k' r' h; exact absurd h (no _ _)

/-! ### An iterator with more than one entry left -/
def altsN (id m since : Nat) (seen : List Nat) (clock : Nat) (S : St) : List (AV × AV × Nat) → Option (List (AV × St))
  | [] => some []
  | (k, v, b) :: r => match Nat.blt b since with
    | true => match altsN id m since seen clock S r with
      | some l => some ((.tup [.bool true, k, v], S.put id (.iter (some m) since (seen ++ [b]) clock)) :: l)
      | none => none
    | false => none
def moreLeft (seen : List Nat) (last : Nat) (es : List (AV × AV × Nat)) : Bool :=
  match seen, es with
  | [], _ => true
  | _, [] => true
  | _, _ => !noneBelow last es
/-- All that an iterator's step may bring. -/
def nexts (ev : Opd → AV) (it : Opd) (S : St) : Option (List (AV × St)) :=
  match aop (.next it) ev 0 S with
  | some p => some [p]
  | none => match ev it with
    | .ptr id 0 => match S.get id with
      | some (.iter (some m) since seen last) => match S.get m with
        | some (.map es clock) => match moreLeft seen last es with
          | false => none
          | true => match leftE seen es with
            | [] => none
            | e :: l => altsN id m since seen clock S (e :: l)
        | _ => none
      | _ => none
    | _ => none

section
variable {P : Program} {B : Nat} {w0 w : World} {ρ : Pl} {S : St} {fr : AFr} {a : Act} {rid : Nat}
theorem altsN_sound {id m since clock : Nat} {seen : List Nat} : ∀ {l : List (AV × AV × Nat)} {es : List MapEntry} {alts : List (AV × St)}, EL ρ l es → altsN id m since seen clock S l = some alts →
    (∀ e ∈ es, e.born < since) ∧ ∀ e ∈ es, ∃ k x, V ρ k e.key ∧ V ρ x e.val ∧ (AV.tup [.bool true, k, x], S.put id (.iter (some m) since (seen ++ [e.born]) clock)) ∈ alts
  | _, _, alts, .nil, _ => ⟨fun e he => (by cases he), fun e he => (by cases he)⟩
  | _, _, alts, .cons (k := k) (x := x) (e := e) hk hx hb ht, h => by
    subst hb
    simp only [altsN] at h
    split at h
    · rename_i hlt
      split at h
      · rename_i r hr
        obtain rfl := Option.some.inj h
        obtain ⟨g1, g2⟩ := altsN_sound ht hr
        have hlt : e.born < since := by simpa [Nat.blt, Nat.succ_le_iff] using hlt
        refine ⟨fun e' he => ?_, fun e' he => ?_⟩
        · rcases List.mem_cons.1 he with rfl | he
          · exact hlt
          · exact g1 e' he
        · rcases List.mem_cons.1 he with rfl | he
          · exact ⟨k, x, hk, hx, List.mem_cons_self⟩
          · obtain ⟨k', x', a1, a2, a3⟩ := g2 e' he
            exact ⟨k', x', a1, a2, List.mem_cons_of_mem _ a3⟩
      · cases h
    · cases h
theorem run_pickNext (n : Nat) (hn : 0 < n) (hR : R B w0 ρ S w) : ∃ i w1, i < n ∧ R B w0 ρ S w1 ∧ w1.heap = w.heap ∧ (choose (.mapNext n)).run P w = .ok i w1 := by
  by_cases h : n ≤ 1
  · exact ⟨0, w, hn, hR, rfl, by simp [choose, Sem.run, Question.forced, h]⟩
  · exact ⟨w.tape w.drawn (.mapNext n) % n, w.drew, Nat.mod_lt _ hn, hR.drew, rfl, by
      have hf : (Question.mapNext n).forced = false := by simp [Question.forced, h]
      simp only [choose, Sem.run, hf]
      rfl⟩
theorem nexts_sound {o : Oper} {it : Operand} {p : Opd} {l : List (AV × St)} (hF : FR ρ fr a) (hR : R B w0 ρ S w) (ho : o.op = .next it false) (hx : cOpd it = some p) (h : nexts fr.ev p S = some l) :
    ∃ q, q ∈ l ∧ Good P B w0 ρ S rid a w o q.1 q.2 := by
  unfold nexts at h
  split at h
  · rename_i q hq
    obtain rfl := Option.some.inj h
    exact ⟨q, List.mem_cons_self, sound_next hF hR ho hx hq⟩
  have hv := hF.ev hx
  split at h
  · rename_i id ep
    rw [ep] at hv
    generalize hvx : a.eval it = vx at hv
    cases hv
    rename_i rr hr
    have hex : ∀ r w', (Instr.next (.pointer (some ⟨rr.b, rr.sh + 0, none⟩)) false o.type).run P w = .ok r w' → (execOp a.eval o).run P w = .ok (.value r) w' := by
      intro r w' hr
      simp only [execOp, ho, hvx]
      exact run_v hr
    split at h
    · rename_i m since seen last hg
      obtain ⟨hz, rm, hh, qm, hqm, rfl⟩ := hR.blk id _ rr hg hr
      split at h
      · rename_i es clock hgm
        obtain ⟨ces, hhm, hl⟩ := hR.blk m _ qm hgm hqm
        split at h
        · cases h
        · rename_i hguard
          have hgd : (!seen.toArray.isEmpty && !ces.isEmpty && ces.all (fun e => decide (e.born ≥ last))) = false := by
            have hall : ces.all (fun e => decide (e.born ≥ last)) = noneBelow last es := by
              rw [noneBelow_all last hl]; simp
            rw [hall]
            have hlen := hl.toList_get
            cases seen with
            | nil => simp
            | cons s seen =>
              cases es with
              | nil =>
                have : ces.isEmpty = true := by
                  rw [Array.isEmpty_iff_size_eq_zero]
                  simpa using hlen.symm
                simp [this]
              | cons e es =>
                simp only [moreLeft, Bool.not_eq_true'] at hguard
                simp [hguard]
          have hleft := hl.left seen
          split at h
          · cases h
          · rename_i e0 l0 hle
            rw [hle] at hleft
            have hfl : ∃ fl : Array MapEntry, ces.filter (fun e => !seen.toArray.contains e.born) = fl := ⟨_, rfl⟩
            obtain ⟨fl, hfl⟩ := hfl
            have hfl' : ces.toList.filter (fun e => !seen.toArray.contains e.born) = fl.toList := by rw [← hfl]; simp
            rw [hfl'] at hleft
            obtain ⟨g1, g2⟩ := altsN_sound hleft h
            have hpos : 0 < fl.size := by
              have := hleft.toList_get
              simp only [List.length_cons, Array.length_toList] at this
              omega
            have hold : fl.filter (fun e => decide (e.born < since)) = fl := by
              apply Array.ext'
              rw [Array.toList_filter, List.filter_eq_self]
              exact fun e he => decide_eq_true (g1 e he)
            have hnew : fl.filter (fun e => decide (e.born ≥ since)) = #[] := by
              apply Array.ext'
              rw [Array.toList_filter]
              show _ = []
              rw [List.filter_eq_nil_iff]
              intro e he
              have := g1 e he
              simp; omega
            have hne : fl.isEmpty = false := by
              cases hb : fl.isEmpty with
              | false => rfl
              | true => rw [Array.isEmpty_iff_size_eq_zero] at hb; omega
            obtain ⟨i, w1, hi, hR1, hheap, hch⟩ := run_pickNext (P := P) fl.size hpos hR
            have hfi : fl[i]? = some fl[i] := Array.getElem?_eq_getElem hi
            obtain ⟨k, x, hk, hxv, hmem⟩ := g2 fl[i] (by simp)
            refine ⟨_, hmem, ?_⟩
            generalize hei : fl[i] = e at *
            have hh1 : w1.heap[rr.b]? = _ := (congrArg (·[rr.b]?) hheap).trans hh
            have hso := run_setObj (P := P) (o' := .mapIter (some qm.b) since (seen.toArray.push e.born) clock) hh1 (by simp)
            have hst : Step B w0 ρ S rid ρ (S.put id (.iter (some m) since (seen ++ [e.born]) clock)) (wset w1 rr.b (.mapIter (some qm.b) since (seen.toArray.push e.born) clock)) := by
              refine ⟨.refl _, hR1.set hg hr rfl (hR1.solo_obj hg (by simp) hr) (hR1.ok.obj (by simp)) ⟨hz, some qm.b, ?_, qm, hqm, rfl⟩, rfl, fun q _ hq => ⟨hq.lt, hq.un, ?_⟩⟩
              · rw [wset_get, if_pos rfl, if_pos (hR1.dom id rr hr).2]
                simp
              · intro j c p w' a' t' hj
                rw [St.get_put] at hj
                by_cases e : j = id
                · rw [if_pos e] at hj; cases hj
                · rw [if_neg e] at hj; exact hq.rt j c p w' a' t' hj
            refine ⟨ρ, .tuple #[.bool true, e.key, e.val], _, hst, .tup (.cons .bool (.cons hk (.cons hxv .nil))), .inl (hex _ _ ?_)⟩
            simp only [Instr.next, hz, Nat.zero_add, Sem.run_bind, run_getObj hh (by simp), Result.andThen, run_getObj hhm (by simp), hgd, Bool.false_eq_true, if_false, hfl, hold, hnew, hne]
            simp only [Array.append_empty, Array.empty_append, Array.size_map, hch, Array.getElem?_map, hfi, Option.map_some, Sem.run_bind, hso, Result.andThen, Sem.run_pure]
      · cases h
    · cases h
  · cases h
end

/-! ### Unknown tests; what is left open is gone through, within calls too -/
abbrev Cont := AE → AFr → St → Bool
/-- Is it wanted? some none: that is unknown. -/
def wantsU (fr : AFr) : Option (Nat × Bool) → Option (Option Bool)
  | none => some (some true)
  | some (d, b) => match fr.get d with
    | .bool c => match b with | true => some (some c) | false => some (some !c)
    | .any .b => some none
    | .any _ => none
    | _ => some (some false)
/-- What a guard shows. -/
def sure (fr : AFr) (g : Option (Nat × Bool)) (u : Bool) : AFr :=
  match g with
  | none => fr
  | some (d, b) => fr.set d (.bool (match b with | true => u | false => !u))
def sureO (fr : AFr) (x : Opd) (u : Bool) : AFr :=
  match x with
  | .t n => fr.set n (.bool u)
  | .c _ => fr
def putK (fr : AFr) (dst : Option Nat) (v : AV) (go : AFr → Bool) : Bool :=
  match fr.put dst v with
  | some fr' => go fr'
  | none => false
/-- A function that is gone through, not run. -/
def deepOf (E : Env) (deep : Nat → Bool) : AV → Option (Nat × CFun × List AV × List AV)
  | .fn (.func g) first caps => match deep g with
    | true => match Nat.beq g E.mnz, E.tab g with
      | false, some cf => some (g, cf, first, caps)
      | _, _ => none
    | false => none
  | _ => none
def allK (fr : AFr) (dst : Option Nat) (go : AFr → St → Bool) : List (AV × St) → Bool
  | [] => true
  | (v, S) :: r => (putK fr dst v fun fr' => go fr' S) && allK fr dst go r
/-- What a function that is gone through hands back. -/
def backK (cf : CFun) (p : List AV → St → Bool) : Cont := fun e fr S =>
  match e with
  | .exit _ => false
  | _ => match leave fr.d S with
    | some S2 => match ressOf fr S2 cf.res with
      | some vs => p vs S2
      | none => false
    | none => false
/-- A round that is gone through. -/
def ychk (ck : CC → AFr → St → Cont → Bool) (l : Nat) (args : List AV) (S : St) (go : St → Bool) : Bool :=
  match S.get l with
  | some (.loop false n m ps a b) => match putL n ps args m with
    | none => false
    | some m1 => ck a ⟨n, m1, [], true⟩ S fun e fr1 S1 => match e with
      | .normal => match S1.get l with
        | some (.loop false n1 m1 ps1 a1 b1) => ck b fr1 (S1.put l (.loop true n1 m1 ps1 a1 b1)) fun e _ S2 => match e with
          | .normal => match S2.get l with
            | some (.loop true n2 m2 ps2 a2 b2) => go (S2.put l (.loop false n2 m2 ps2 a2 b2))
            | _ => false
          | _ => false
        | _ => false
      | _ => false
  | _ => false
/-! What ends there are (nothing is proved of this: it only proposes a state) -/
abbrev Ends := List (AE × AFr × St)
def backL (cf : CFun) : Ends → List (List AV × St)
  | [] => []
  | (e, fr, S) :: r => match e with
    | .exit _ => backL cf r
    | _ => match leave fr.d S with
      | some S2 => match ressOf fr S2 cf.res with
        | some vs => (vs, S2) :: backL cf r
        | none => backL cf r
      | none => backL cf r
def putL1 (fr : AFr) (dst : Option Nat) : List (AV × St) → List (AFr × St)
  | [] => []
  | (v, S) :: r => match fr.put dst v with
    | some fr' => (fr', S) :: putL1 fr dst r
    | none => putL1 fr dst r
def tups : List (List AV × St) → List (AV × St)
  | [] => []
  | (vs, S) :: r => (tupOf vs, S) :: tups r
def colOp (E : Env) (deep : Nat → Bool) (cl : CC → AFr → St → Ends) (run : Runner) (o : COp) (rid : Nat) (fr : AFr) (S : St) : List (AV × St) :=
  match o.pre, o.ci with
  | false, .next it => (nexts fr.ev it S).getD []
  | false, .call f xs => match deepOf E deep (fr.ev f) with
    | some (g, cf, first, caps) => tups (backL cf (cl cf.body (aframe cf.n (first ++ evs fr.ev xs ++ caps)) (soloIf (E.solo g) (first ++ evs fr.ev xs ++ caps) S)))
    | none => (doOp E run o fr.ev rid S).toList
  | _, _ => (doOp E run o fr.ev rid S).toList
def colOps (E : Env) (deep : Nat → Bool) (cl : CC → AFr → St → Ends) (run : Runner) : List COp → Nat → AFr → St → List (AFr × St)
  | [], _, fr, S => [(fr, S)]
  | o :: os, rid, fr, S =>
    let no := fun fr => (putL1 fr o.dst [(.tup [], S)]).flatMap fun p => colOps E deep cl run os (rid + 1) p.1 p.2
    let yes := fun fr => (putL1 fr o.dst (colOp E deep cl run o rid fr S)).flatMap fun p => colOps E deep cl run os (rid + 1) p.1 p.2
    match wantsU fr o.guard with
    | none => []
    | some (some false) => no fr
    | some (some true) => yes fr
    | some none => no (sure fr o.guard false) ++ yes (sure fr o.guard true)
def normals (l : List (AFr × St)) : Ends := l.map fun p => (.normal, p.1, p.2)
def col (E : Env) (deep : Nat → Bool) : Nat → CC → AFr → St → Ends
  | 0, _, _, _ => []
  | f + 1, c, fr, S =>
    match c with
    | .seq a b => (col E deep f a fr S).flatMap fun p => match p.1 with
      | .normal => col E deep f b p.2.1 p.2.2
      | e => [(e, p.2.1, p.2.2)]
    | .cond x a b => match fr.ev x with
      | .bool true => col E deep f a fr S
      | .bool false => col E deep f b fr S
      | .any .b => col E deep f a (sureO fr x true) S ++ col E deep f b (sureO fr x false) S
      | _ => []
    | .block id a => (col E deep f a fr S).map fun p => match p.1 with
      | .exit j => match Nat.beq j id with
        | true => (.normal, p.2.1, p.2.2)
        | false => (.exit j, p.2.1, p.2.2)
      | e => (e, p.2.1, p.2.2)
    | .loop a => (col E deep f a fr S).flatMap fun p => match p.1 with
      | .normal => col E deep f (.loop a) p.2.1 p.2.2
      | e => [(e, p.2.1, p.2.2)]
    | .region n ops => normals (colOps E deep (col E deep f) (exec E f) ops S.next fr { h := S.h, next := S.next + n })
    | .rfn x ps a b => match fr.rd, deepOf E deep (fr.ev x) with
      | false, some (_, cf, first, caps) => (backL cf (col E deep f cf.body (aframe cf.n (first ++ [AV.yld (S.next + 1)] ++ caps)) (rfnSt fr S ps a b))).flatMap fun q => match q.2.get (S.next + 1) with
          | some (.loop false _ _ _ _ _) => [(.normal, { fr with d := S.next :: fr.d }, q.2.put (S.next + 1) .gone)]
          | _ => []
      | _, _ => (exec E (f + 1) (.rfn x ps a b) fr S).toList
    | .drawn n m ops ps cs => match runDraw E (exec E f) (ops.take m) S.next fr (preAll fr.ev ops S.next { h := S.h, next := S.next + n }) [] with
      | some (fr', S', tr) => normals (colOps E deep (col E deep f) (exec E f) ((ops.drop m).map plainOp) (S.next + m) fr' S')
      | none => []
    | c => (exec E (f + 1) c fr S).toList
def chkOp (E : Env) (deep : Nat → Bool) (cl : CC → AFr → St → Ends) (ck : CC → AFr → St → Cont → Bool) (run : Runner) (o : COp) (rid : Nat) (fr : AFr) (S : St) (go : AFr → St → Bool) : Bool :=
  match o.pre, o.ci with
  | false, .next it => match nexts fr.ev it S with
    | some l => allK fr o.dst go l
    | none => false
  | false, .call f xs => match fr.ev f with
    | .yld l => ychk ck l (evs fr.ev xs) S fun S' => putK fr o.dst (.bool true) fun fr' => go fr' S'
    | fv => match deepOf E deep fv with
      | some (g, cf, first, caps) => match Nat.ble (first ++ evs fr.ev xs ++ caps).length cf.n with
        | true => match E.mrg g with
          | false => ck cf.body (aframe cf.n (first ++ evs fr.ev xs ++ caps)) (soloIf (E.solo g) (first ++ evs fr.ev xs ++ caps) S) (backK cf fun vs S2 => putK fr o.dst (tupOf vs) fun fr' => go fr' S2)
          | true => match backL cf (cl cf.body (aframe cf.n (first ++ evs fr.ev xs ++ caps)) (soloIf (E.solo g) (first ++ evs fr.ev xs ++ caps) S)) with
            | [] => false
            | (vs, S1) :: more => (fun S2 => ck cf.body (aframe cf.n (first ++ evs fr.ev xs ++ caps)) (soloIf (E.solo g) (first ++ evs fr.ev xs ++ caps) S) (backK cf fun vs' S' => allEq (AV.eqF 3) vs vs' && covS S2 S') && putK fr o.dst (tupOf vs) fun fr' => go fr' S2) (meetAll (meetS S1 S1) more)
        | false => false
      | none => match doOp E run o fr.ev rid S with
        | some (v, S') => putK fr o.dst v fun fr' => go fr' S'
        | none => false
  | _, _ => match doOp E run o fr.ev rid S with
    | some (v, S') => putK fr o.dst v fun fr' => go fr' S'
    | none => false
def chkOps (E : Env) (deep : Nat → Bool) (cl : CC → AFr → St → Ends) (ck : CC → AFr → St → Cont → Bool) (run : Runner) : List COp → Nat → AFr → St → (AFr → St → Bool) → Bool
  | [], _, fr, S, k => k fr S
  | o :: os, rid, fr, S, k =>
    match wantsU fr o.guard with
    | none => false
    | some (some false) => putK fr o.dst (.tup []) fun fr' => chkOps E deep cl ck run os (rid + 1) fr' S k
    | some (some true) => chkOp E deep cl ck run o rid fr S fun fr' S' => chkOps E deep cl ck run os (rid + 1) fr' S' k
    | some none => (putK (sure fr o.guard false) o.dst (.tup []) fun fr' => chkOps E deep cl ck run os (rid + 1) fr' S k) && chkOp E deep cl ck run o rid (sure fr o.guard true) S fun fr' S' => chkOps E deep cl ck run os (rid + 1) fr' S' k
def chk (E : Env) (deep : Nat → Bool) : Nat → CC → AFr → St → Cont → Bool
  | 0, _, _, _, _ => false
  | f + 1, c, fr, S, k =>
    match c with
    | .seq a b => chk E deep f a fr S fun e fr' S' => match e with
      | .normal => chk E deep f b fr' S' k
      | e => k e fr' S'
    | .cond x a b => match fr.ev x with
      | .bool true => chk E deep f a fr S k
      | .bool false => chk E deep f b fr S k
      | .any .b => chk E deep f a (sureO fr x true) S k && chk E deep f b (sureO fr x false) S k
      | _ => false
    | .block id a => chk E deep f a fr S fun e fr' S' => match e with
      | .exit j => match Nat.beq j id with
        | true => k .normal fr' S'
        | false => k (.exit j) fr' S'
      | e => k e fr' S'
    | .loop a => chk E deep f a fr S fun e fr' S' => match e with
      | .normal => chk E deep f (.loop a) fr' S' k
      | e => k e fr' S'
    | .region n ops => chkOps E deep (col E deep f) (chk E deep f) (exec E f) ops S.next fr { h := S.h, next := S.next + n } fun fr' S' => k .normal fr' S'
    | .rfn x ps a b => match fr.rd, deepOf E deep (fr.ev x) with
      | false, some (_, cf, first, caps) => match Nat.ble (first ++ [AV.yld (S.next + 1)] ++ caps).length cf.n with
        | true => chk E deep f cf.body (aframe cf.n (first ++ [AV.yld (S.next + 1)] ++ caps)) (rfnSt fr S ps a b) (backK cf fun _ S2 => match S2.get (S.next + 1) with
          | some (.loop false _ _ _ _ _) => k .normal { fr with d := S.next :: fr.d } (S2.put (S.next + 1) .gone)
          | _ => false)
        | false => false
      | _, _ => match exec E (f + 1) (.rfn x ps a b) fr S with
        | some (e, fr', S') => k e fr' S'
        | none => false
    | .drawn n m ops ps cs => match runDraw E (exec E f) (ops.take m) S.next fr (preAll fr.ev ops S.next { h := S.h, next := S.next + n }) [] with
      | some (fr', S', tr) => match lookP tr ps && lookC tr cs with
        | true => chkOps E deep (col E deep f) (chk E deep f) (exec E f) ((ops.drop m).map plainOp) (S.next + m) fr' S' fun fr' S' => k .normal fr' S'
        | false => false
      | none => false
    | c => match exec E (f + 1) c fr S with
      | some (e, fr', S') => k e fr' S'
      | none => false

section
variable {P : Program} {B : Nat} {w0 w : World} {ρ : Pl} {S : St} {fr : AFr} {a : Act} {rid : Nat}
def Out (B : Nat) (w0 : World) (ρ : Pl) (S : St) (rd : Bool) (k : Cont) : Exit → Act → World → Prop :=
  fun x a' w' => ∃ e fr' S', k e fr' S' = true ∧ After B w0 ρ S rd e fr' S' x a' w'
theorem Out.behind {rd : Bool} {ρ' : Pl} {S' : St} {w' : World} {k : Cont} (hp : Post B w0 ρ S (fun _ => False) ρ' S' w') {x : Exit} {a2 : Act} {w2 : World} (h : Out B w0 ρ' S' rd k x a2 w2) : Out B w0 ρ S rd k x a2 w2 := by
  obtain ⟨e, fr2, S2, hk, rfl, hd, ρ2, hp2, hF⟩ := h
  exact ⟨e, fr2, S2, hk, rfl, hd, ρ2, hp.more hp2, hF⟩
def CkOk (P : Program) (B : Nat) (w0 : World) (ck : CC → AFr → St → Cont → Bool) : Prop :=
  ∀ (r : Option Nat) (c : Code) (cc : CC) (fr : AFr) (S : St) (k : Cont) (ρ : Pl) (a : Act) (w : World), compC P c = some cc → ck cc fr S k = true → FR ρ fr a → R B w0 ρ S w → CodeOk P ρ → (r = none ∨ fr.rd = true) → c.wpIn (FF r) 0 P (Out B w0 ρ S fr.rd k) a w
theorem putK_spec {dst : Option Nat} {v : AV} {go : AFr → Bool} (h : putK fr dst v go = true) : ∃ fr', fr.put dst v = some fr' ∧ go fr' = true := by
  unfold putK at h
  split at h
  · rename_i fr' e; exact ⟨fr', e, h⟩
  · cases h
theorem allK_spec {dst : Option Nat} {go : AFr → St → Bool} : ∀ {l : List (AV × St)}, allK fr dst go l = true → ∀ p ∈ l, ∃ fr', fr.put dst p.1 = some fr' ∧ go fr' p.2 = true
  | [], _, p, hp => by cases hp
  | (v, T) :: r, h, p, hp => by
    simp only [allK, Bool.and_eq_true] at h
    rcases List.mem_cons.1 hp with rfl | hp
    · exact putK_spec h.1
    · exact allK_spec h.2 p hp
theorem calls_of_ck {E : Env} (hE : E.Ok P) {ck : CC → AFr → St → Cont → Bool} (hck : CkOk P B w0 ck) {g : Nat} {cf : CFun} {args : List AV} {xs : List Value} {p : List AV → St → Bool} (hg : FnOk P g cf) (hl : Nat.ble args.length cf.n = true)
    (h : ck cf.body (aframe cf.n args) S (backK cf p) = true) (hx : VL ρ args xs) (hR : R B w0 ρ S w) (hP : CodeOk P ρ) :
    (callFunc g xs.toArray).run P w = .ok (.enter g xs.toArray) w ∧ CallsIn (FF none) 0 P g xs.toArray w (fun en w' => ∃ x vs S', en = .returned x ∧ p vs S' = true ∧ ∃ ρ', Post B w0 ρ S (fun _ => False) ρ' S' w' ∧ V ρ' (tupOf vs) x) := by
  obtain ⟨fn, hf, hname, hcf⟩ := hg
  unfold compFn at hcf
  split at hcf
  case h_2 => cases hcf
  rename_i c hb
  split at hcf
  case h_2 => cases hcf
  rename_i x r hx' hr
  obtain rfl := Option.some.inj hcf
  constructor
  · have h1 : fn.name ≠ "runtime.NumGoroutine" := by simpa using hname
    simp [callFunc, hf, h1, hb]
  refine callsIn_of_wp_marks hf hb trivial ?_ rfl
  refine wpIn_mono (hck none c x _ S _ ρ _ w hx' h (aframe_fr hx (Nat.le_of_ble_eq_true hl) [] .nil) hR hP (.inl rfl)) ?_
  rintro ex a' w' ⟨e, fr', S', hk, rfl, hd, ρ', hp, hF'⟩
  unfold backK at hk
  have fin : (match leave fr'.d S' with | some S2 => (match ressOf fr' S2 r with | some vs => p vs S2 | none => false) | none => false) = true → LeavesInM (FF none) 0 P fn a'.tmps (fun en w' => ∃ x vs S', en = .returned x ∧ p vs S' = true ∧ ∃ ρ', Post B w0 ρ S (fun _ => False) ρ' S' w' ∧ V ρ' (tupOf vs) x) a'.defers .returning w' := by
    intro hk
    split at hk
    · rename_i S2 hlv
      split at hk
      · rename_i vs hvs
        refine leave_sound hF'.dl hlv hp (fun w2 hp2 => ?_)
        obtain ⟨y, hy, hrs⟩ := results_sound (P := P) hF' hp2.r hr hvs
        exact ⟨y, hrs, y, vs, S2, rfl, hk, ρ', hp2, hy⟩
      · cases hk
    · cases hk
  cases e with
  | normal => exact fin hk
  | ret => exact fin hk
  | exit id => cases hk
theorem deepOf_spec {E : Env} {deep : Nat → Bool} {v : AV} {g : Nat} {cf : CFun} {first caps : List AV} (h : deepOf E deep v = some (g, cf, first, caps)) : v = .fn (.func g) first caps ∧ Nat.beq g E.mnz = false ∧ E.tab g = some cf := by
  unfold deepOf at h
  split at h
  · split at h
    · split at h
      · rename_i e1 e2
        simp only [Option.some.injEq, Prod.mk.injEq] at h
        obtain ⟨rfl, rfl, rfl, rfl⟩ := h
        exact ⟨rfl, e1, e2⟩
      · cases h
    · cases h
  · cases h
theorem ychk_sound {r : Option Nat} {ck : CC → AFr → St → Cont → Bool} (hck : CkOk P B w0 ck) {l : Nat} {rr : Real} {args : List AV} {xs : List Value} {go : St → Bool} {o : Oper} {next : Act → World → Prop} {Q : Exit → Act → World → Prop}
    (h : ychk ck l args S go = true) (hrr : ρ l = some rr) (hxs : VL ρ args xs) (hR : R B w0 ρ S w) (hP : CodeOk P ρ)
    (hn : ∀ ρ' w' S', Post B w0 ρ S (fun _ => False) ρ' S' w' → go S' = true → next (a.put o.dst (.bool true)) w') : Oper.uponIn (FF r) 0 P o a next Q ((Instr.yield rr.b xs.toArray).run P w) := by
  unfold ychk at h
  split at h
  case h_2 => cases h
  rename_i n m qs ca cb hg
  split at h
  case h_1 => cases h
  rename_i m1 hput
  obtain ⟨fn, tmps, assign, body, D, hh, hsz, hfv, hca, hcb⟩ := hR.blk l _ rr hg hrr
  obtain ⟨k1, k2, k3⟩ := putL_sound hput hxs hsz hfv
  rw [run_yield hh (by simpa using k1.symm)]
  rw [Oper.uponIn_round]
  refine ⟨fun h => (by cases h), ?_⟩
  have hfold : ((qs.toArray.zip xs.toArray).foldl (fun tmps (t, a) => tmps.setIfInBounds t a) tmps) = ((qs.zip xs).foldl (fun tmps (t, a) => tmps.setIfInBounds t a) tmps) := by
    rw [← Array.foldl_toList]; simp
  refine roundIn_of_wpIn trivial ?_
  show Code.wpIn (FF (some rr.b)) 0 P assign _ { tmps := ((qs.toArray.zip xs.toArray).foldl (fun tmps (t, a) => tmps.setIfInBounds t a) tmps), defers := [] } w
  rw [hfold]
  have hF0 : FR ρ ⟨n, m1, [], true⟩ { tmps := ((qs.zip xs).foldl (fun tmps (t, a) => tmps.setIfInBounds t a) tmps), defers := [] } := ⟨k2, k3, .nil⟩
  have hca' : compC P assign = some ca := by rw [hP] at hca; exact hca
  have hcb' : compC P body = some cb := by rw [hP] at hcb; exact hcb
  refine wpIn_mono (hck (some rr.b) assign ca _ S _ ρ _ w hca' h hF0 hR hP (.inr rfl)) ?_
  rintro ex a1 w1 ⟨e, fr1, S1, hk, rfl, hrd1, ρ1, hp1, hF1⟩
  cases e with
  | ret => cases hk
  | exit id => cases hk
  | normal =>
  simp only [] at hk
  split at hk
  case h_2 => cases hk
  rename_i n1 m1' ps1 ca1 cb1 hg1
  have hrr1 := hp1.sub _ _ hrr
  obtain ⟨fn1, tmps1, assign1, body1, D1, hh1, hsz1, hfv1, hca1, hcb1⟩ := hp1.r.blk l _ rr hg1 hrr1
  show ∃ w₂, (Instr.beginRound rr.b).run P w1 = .ok () w₂ ∧ _
  refine ⟨_, run_beginRound hh1 rfl, ?_⟩
  rw [putObj_wset]
  have hpo1 := post_obj (ex := fun _ => False) (k' := .loop true n1 m1' ps1 ca1 cb1) (o := .loop { state := .busy, pending := none, fn := fn1, tmps := tmps1, params := ps1.toArray, assign := assign1, body := body1, defers := D1 }) hp1.r hg1 (by simp) rfl hrr1 (by simp)
    ⟨fn1, tmps1, assign1, body1, D1, by rw [wset_get, if_pos rfl, if_pos (hp1.r.heap_of hrr1)], hsz1, hfv1, hca1, hcb1⟩
  refine wpIn_mono (hck (some rr.b) body cb fr1 _ _ ρ1 a1 _ hcb' hk hF1 hpo1.r (hP.sub hp1.sub) (.inr hrd1)) ?_
  rintro ex a2 w2 ⟨e, fr2, S2, hk, rfl, -, ρ2, hp2, hF2⟩
  cases e with
  | ret => cases hk
  | exit id => cases hk
  | normal =>
  simp only [] at hk
  split at hk
  case h_2 => cases hk
  rename_i n2 m2 ps2 ca2 cb2 hg2
  have hrr2 := hp2.sub _ _ hrr1
  obtain ⟨fn2, tmps2, assign2, body2, D2, hh2, hsz2, hfv2, hca2, hcb2⟩ := hp2.r.blk l _ rr hg2 hrr2
  refine ⟨_, _, run_endRound none hh2, ?_⟩
  rw [putObj_wset]
  have hpo2 := post_obj (ex := fun _ => False) (k' := .loop false n2 m2 ps2 ca2 cb2) (o := .loop { state := .ready, pending := none, fn := fn2, tmps := tmps2, params := ps2.toArray, assign := assign2, body := body2, defers := D2 }) hp2.r hg2 (by simp) rfl hrr2 (by simp)
    ⟨fn2, tmps2, assign2, body2, D2, by rw [wset_get, if_pos rfl, if_pos (hp2.r.heap_of hrr2)], hsz2, hfv2, hca2, hcb2⟩
  exact hn ρ2 _ _ (((hp1.more hpo1).more hp2).more hpo2) hk
theorem chkOp_sound {r : Option Nat} {E : Env} {deep : Nat → Bool} {cl : CC → AFr → St → Ends} {ck : CC → AFr → St → Cont → Bool} {run : Runner} (hE : E.Ok P) (hrun : RunOk P B w0 run) (hck : CkOk P B w0 ck) {o : Oper} {c : COp} {go : AFr → St → Bool} {next : Act → World → Prop} {Q : Exit → Act → World → Prop}
    (hc : c.ci = (comp P o.op).getD .bad) (hF : FR ρ fr a) (hR : R B w0 ρ S w) (hP : CodeOk P ρ) (hf : Fresh ρ S rid) (h : chkOp E deep cl ck run c rid fr S go = true)
    (hn : ∀ ρ' x w' v S' fr', Post B w0 ρ S (· = rid) ρ' S' w' → V ρ' v x → fr.put c.dst v = some fr' → go fr' S' = true → next (a.put o.dst x) w') : o.wpIn (FF r) 0 P a w next Q := by
  have plain : (match doOp E run c fr.ev rid S with | some (v, S') => putK fr c.dst v fun fr' => go fr' S' | none => false) = true → o.wpIn (FF r) 0 P a w next Q := by
    intro h
    split at h
    · rename_i v S' hdo
      obtain ⟨fr', h1, h2⟩ := putK_spec h
      exact op_sound hE hrun hc hF hR hP hf hdo (fun ρ' x w' hp hv => hn ρ' x w' v S' fr' hp hv h1 h2)
    · cases h
  unfold chkOp at h
  split at h
  · rename_i it hpre hci
    cases hcm : comp P o.op with
    | none => rw [hcm, hci] at hc; cases hc
    | some ci =>
      rw [hcm, hci] at hc
      simp only [Option.getD_some] at hc
      subst hc
      have ho : ∃ x, o.op = .next x false ∧ cOpd x = some it := by
        generalize o.op = op at hcm
        cases op
        case next x b =>
          cases b
          · simp only [comp, Option.map_eq_some_iff, CI.next.injEq, exists_eq_right] at hcm
            exact ⟨x, rfl, hcm⟩
          · simp [comp] at hcm
        case makeMap t r => cases r <;> simp [comp] at hcm
        all_goals (simp only [comp] at hcm)
        all_goals repeat' (first | (cases hcm; done) | (simp only [Option.some.injEq, reduceCtorEq, Option.map_eq_some_iff, and_false, exists_false] at hcm; done) | split at hcm)
      obtain ⟨x, ho, hx⟩ := ho
      split at h
      · rename_i l hl
        obtain ⟨q, hq, hgood⟩ := nexts_sound (rid := rid) hF hR ho hx hl
        obtain ⟨fr', h1, h2⟩ := allK_spec h q hq
        exact good_wp hgood (comp_defer hcm) (fun ρ' y w' hp hv => hn ρ' y w' q.1 q.2 fr' hp hv h1 h2)
      · cases h
  · rename_i f xs hpre hci
    have callOf : ∃ cl fo, o.op = .call cl ∧ cl.callee = .value fo ∧ cOpd fo = some f ∧ cOpds cl.args.toList = some xs := by
      cases hcm : comp P o.op with
      | none => rw [hcm, hci] at hc; cases hc
      | some ci =>
        rw [hcm, hci] at hc
        simp only [Option.getD_some] at hc
        subst hc
        exact comp_call hcm
    obtain ⟨cl, fo, ho, hcal, hg, hxs⟩ := callOf
    have hsem : o.semAt (FF r).round a.eval = execOp a.eval o := Oper.semAt_eq _ _ _ (fun c' h' => by rw [ho] at h'; cases h')
    have hv := hF.ev hg
    have hargs := hF.evs hxs
    split at h
    · rename_i l ev
      rw [ev] at hv
      generalize hvf : a.eval fo = vf at hv
      cases hv
      rename_i rr hrr
      have hex : execOp a.eval o = Instr.yield rr.b (cl.args.toList.map a.eval).toArray := by
        have e : cl.args.map a.eval = (cl.args.toList.map a.eval).toArray := Array.ext' (by simp)
        simp only [execOp, ho, resolve, hcal, e, hvf, Deferred.ofValue, pure_bind, invoke, Array.empty_append, Array.append_empty]
      refine ⟨fun _ _ => trivial, ?_⟩
      rw [hsem, hex]
      refine ychk_sound hck h hrr hargs hR hP (fun ρ' w' S' hpo hgo => ?_)
      obtain ⟨fr', k1, k2⟩ := putK_spec hgo
      exact hn ρ' _ w' _ S' fr' ⟨hpo.sub, hpo.r, hpo.next, fun q _ f => hpo.fr q id f⟩ .bool k1 k2
    · split at h
      · rename_i g cf first caps hdp
        obtain ⟨hfv, hmz, htab⟩ := deepOf_spec hdp
        split at h
        · rename_i hle
          rw [hfv] at hv
          generalize hvf : a.eval fo = vf at hv
          cases hv
          rename_i us ys hfs hcs
          have hex : execOp a.eval o = callFunc g (((us.toArray ++ (cl.args.toList.map a.eval).toArray) ++ ys.toArray)) := by
            have e : cl.args.map a.eval = (cl.args.toList.map a.eval).toArray := Array.ext' (by simp)
            simp only [execOp, ho, resolve, hcal, e, hvf, Deferred.ofValue, pure_bind, invoke]
          rw [args_toArray] at hex
          split at h
          · obtain ⟨h1, h2⟩ := calls_of_ck hE hck (hE.fn g cf htab) hle h (VL.app (VL.app hfs hargs) hcs) (hR.soloIf _ _).1 hP
            refine ⟨fun _ _ => trivial, ?_⟩
            rw [hsem, hex, h1, Oper.uponIn_enter]
            refine ⟨fun h => (by cases h), calls_round (h2.mono ?_)⟩
            rintro en' w' ⟨x, vs, S', rfl, hp, ρ', hpo0, hx⟩
            have hpo := (post_solo hR _ _).more hpo0
            obtain ⟨fr', k1, k2⟩ := putK_spec hp
            exact hn ρ' x w' _ S' fr' ⟨hpo.sub, hpo.r, hpo.next, fun q _ f => hpo.fr q id f⟩ hx k1 k2
          · split at h
            · cases h
            · rename_i vs0 S1 more hcol
              simp only [Bool.and_eq_true] at h
              obtain ⟨h, hgo⟩ := h
              generalize meetAll (meetS S1 S1) more = Sm at h hgo
              obtain ⟨h1, h2⟩ := calls_of_ck hE hck (hE.fn g cf htab) hle h (VL.app (VL.app hfs hargs) hcs) (hR.soloIf _ _).1 hP
              refine ⟨fun _ _ => trivial, ?_⟩
              rw [hsem, hex, h1, Oper.uponIn_enter]
              refine ⟨fun h => (by cases h), calls_round (h2.mono ?_)⟩
              rintro en' w' ⟨x, vs, S', rfl, hp, ρ', hpo0, hx⟩
              simp only [Bool.and_eq_true] at hp
              obtain rfl := allEq_eq (AV.eqF_eq 3) hp.1
              have hpo := ((post_solo hR _ _).more hpo0).cover (covS_spec hp.2)
              obtain ⟨fr', k1, k2⟩ := putK_spec hgo
              exact hn ρ' x w' _ Sm fr' ⟨hpo.sub, hpo.r, hpo.next, fun q _ f => hpo.fr q id f⟩ hx k1 k2
        · cases h
      · exact plain h
  · exact plain h
theorem FR.sure {ρ : Pl} {fr : AFr} {a : Act} {d : Nat} {c : Bool} (hF : FR ρ fr a) (h : a.tmps.getD d undef = .bool c) : FR ρ (fr.set d (.bool c)) a := by
  refine ⟨hF.size, fun t => ?_, hF.dl⟩
  rw [AFr.get_set]
  split
  · rename_i e
    rw [e, h]
    exact .bool
  · exact hF.at_ t
theorem sure_rd (fr : AFr) (g : Option (Nat × Bool)) (u : Bool) : (Eng.sure fr g u).rd = fr.rd := by
  cases g <;> rfl
theorem sure_sound {g : Option (Nat × Bool)} (h : wantsU fr g = some none) (hF : FR ρ fr a) : ∃ u, FR ρ (Eng.sure fr g u) a := by
  cases g with
  | none => cases h
  | some p =>
    obtain ⟨d, b⟩ := p
    have hv := hF.at_ d
    simp only [wantsU] at h
    generalize hq : fr.get d = q at hv h
    generalize hx : a.tmps.getD d undef = x at hv
    have key : Any .b x → ∃ u, FR ρ (Eng.sure fr (some (d, b)) u) a := by
      rintro ⟨c, rfl⟩
      refine ⟨match b with | true => c | false => !c, ?_⟩
      have := hF.sure hx
      cases b
      · simpa [Eng.sure] using this
      · simpa [Eng.sure] using this
    split at h
    · cases b <;> cases h
    · cases hv
      rename_i hb
      exact key hb
    · cases h
    · cases h
theorem wants_sure {g : Option (Nat × Bool)} {u : Bool} (h : wantsU fr g = some none) : wants (Eng.sure fr g u) g = some u := by
  cases g with
  | none => cases h
  | some p =>
    obtain ⟨d, b⟩ := p
    simp only [wants, Eng.sure, AFr.get_set, if_true]
    cases b <;> simp
theorem sureO_sound {x : Opd} {t : Operand} {c : Bool} (hx : cOpd t = some x) (hF : FR ρ fr a) (h : a.eval t = .bool c) : FR ρ (sureO fr x c) a := by
  cases t with
  | tmp n =>
    simp only [cOpd, Option.some.injEq] at hx
    subst hx
    exact hF.sure h
  | const v =>
    simp only [cOpd, Option.map_eq_some_iff] at hx
    obtain ⟨y, _, rfl⟩ := hx
    exact hF
  | _ => first | (simp only [cOpd] at hx; cases hx; done) | (simp only [cOpd, Option.some.injEq] at hx; subst hx; exact hF)
theorem sureO_rd (fr : AFr) (x : Opd) (c : Bool) : (sureO fr x c).rd = fr.rd := by
  cases x <;> rfl
theorem chkOps_sound {r : Option Nat} {E : Env} {deep : Nat → Bool} {cl : CC → AFr → St → Ends} {ck : CC → AFr → St → Cont → Bool} {run : Runner} {ops : Array Oper} {Q : Exit → Act → World → Prop} (hE : E.Ok P) (hrun : RunOk P B w0 run) (hck : CkOk P B w0 ck) : ∀ (los : List Oper) (i : Nat) (cos : List COp) (rid : Nat) (fr : AFr) (S : St) (k : AFr → St → Bool) (ρ : Pl) (a : Act) (w : World),
    ops.toList.drop i = los → compOps P ops los = some cos → chkOps E deep cl ck run cos rid fr S k = true → FR ρ fr a → R B w0 ρ S w → CodeOk P ρ → (∀ q, rid ≤ q → q < rid + los.length → Fresh ρ S q) →
    (∀ ρ' a' w' fr' S', k fr' S' = true → Post B w0 ρ S (fun q => rid ≤ q ∧ q < rid + los.length) ρ' S' w' → FR ρ' fr' a' → fr'.rd = fr.rd → Q .normal a' w') → wpOpsIn (FF r) 0 P ops Q (List.range' i los.length) a w
  | [], i, cos, rid, fr, S, k, ρ, a, w, hd, hc, h, hF, hR, hP, hf, hQ => by
    simp only [compOps, Option.some.injEq] at hc
    subst hc
    exact hQ ρ a w fr S h (.refl hR) hF rfl
  | o :: los, i, cos, rid, fr, S, k, ρ, a, w, hd, hc, h, hF, hR, hP, hf, hQ => by
    simp only [compOps] at hc
    split at hc
    case h_2 => cases hc
    rename_i c cs h1 h2
    obtain rfl := Option.some.inj hc
    obtain ⟨e1, e2, e3⟩ := compOp_spec h1
    have hoi : ops[i]? = some o := by
      rw [← Array.getElem?_toList]
      have := congrArg (·[0]?) hd
      simpa using this
    have hd' : ops.toList.drop (i + 1) = los := by
      rw [← List.drop_drop (i := 1), hd]
      rfl
    rw [List.length_cons, List.range'_succ, wpOpsIn_cons]
    unfold wpOpIn
    rw [hoi]
    simp only []
    have no : ∀ {fr0 : AFr}, FR ρ fr0 a → fr0.rd = fr.rd → (putK fr0 c.dst (.tup []) fun fr' => chkOps E deep cl ck run cs (rid + 1) fr' S k) = true → wpOpsIn (FF r) 0 P ops Q (List.range' (i + 1) los.length) (a.put o.dst undef) w := by
      intro fr0 hF hrd h
      obtain ⟨fr1, hp, h⟩ := putK_spec h
      rw [← e1]
      refine chkOps_sound hE hrun hck los (i + 1) cs (rid + 1) fr1 S k ρ _ w hd' h2 h (hF.put .undef hp) hR hP (fun q h1 h2 => hf q (by omega) (by simp; omega)) (fun ρ' a' w' fr' S' hk hpo hF' hde => ?_)
      exact hQ ρ' a' w' fr' S' hk ⟨hpo.sub, hpo.r, hpo.next, fun q hq f => hpo.fr q (fun hq' => hq ⟨by omega, by simp; omega⟩) f⟩ hF' ((hde.trans (AFr.put_rd hp)).trans hrd)
    have yes : ∀ {fr0 : AFr}, FR ρ fr0 a → fr0.rd = fr.rd → chkOp E deep cl ck run c rid fr0 S (fun fr' S' => chkOps E deep cl ck run cs (rid + 1) fr' S' k) = true → o.wpIn (FF r) 0 P a w (wpOpsIn (FF r) 0 P ops Q (List.range' (i + 1) los.length)) Q := by
      intro fr0 hF hrd h
      refine chkOp_sound hE hrun hck e2 hF hR hP (hf rid (Nat.le_refl _) (by simp)) h (fun ρ1 x w1 v S1 fr1 hpo hv hp h => ?_)
      rw [← e1]
      refine chkOps_sound hE hrun hck los (i + 1) cs (rid + 1) fr1 S1 k ρ1 _ w1 hd' h2 h ((hF.mono hpo.sub).put hv hp) hpo.r (hP.sub hpo.sub) (fun q h1 h2 => hpo.fr q (by show ¬ q = rid; omega) (hf q (by omega) (by simp; omega))) (fun ρ' a' w' fr' S' hk hpo' hF' hde => ?_)
      exact hQ ρ' a' w' fr' S' hk (hpo.trans hpo' (fun q hq _ => by have hq : q = rid := hq; subst hq; exact ⟨Nat.le_refl _, by simp⟩) (fun q hq _ => ⟨by omega, by simp; omega⟩)) hF' ((hde.trans (AFr.put_rd hp)).trans hrd)
    simp only [chkOps] at h
    have known : ∀ {u : Bool}, wantsU fr c.guard = some (some u) → wants fr c.guard = some u := by
      intro u hu
      generalize c.guard = gd at hu
      cases gd with
      | none => simpa [wantsU, wants] using hu
      | some p =>
        obtain ⟨d, b⟩ := p
        simp only [wantsU] at hu
        simp only [wants]
        generalize fr.get d = q at hu
        cases q <;> first | (simpa using hu) | (cases b <;> simpa using hu) | (rename_i kk; cases kk <;> simp at hu)
    split at h
    · cases h
    · rename_i hw
      rw [wanted_eq h1 hF (known hw)]
      simp only [Bool.false_eq_true, if_false]
      exact ⟨fun _ _ => trivial, no hF rfl h⟩
    · rename_i hw
      rw [wanted_eq h1 hF (known hw)]
      simp only [if_true]
      exact yes hF rfl h
    · rename_i hw
      simp only [Bool.and_eq_true] at h
      obtain ⟨u, hFu⟩ := sure_sound hw hF
      have hwu := wants_sure (u := u) hw
      rw [wanted_eq h1 hFu hwu]
      cases u with
      | true => exact yes hFu (sure_rd _ _ _) h.2
      | false => exact ⟨fun _ _ => trivial, no hFu (sure_rd _ _ _) h.1⟩
theorem chk_sound {E : Env} {deep : Nat → Bool} (hE : E.Ok P) : ∀ (f : Nat), CkOk P B w0 (chk E deep f) := by
  intro f
  induction f using Nat.strongRecOn with
  | _ f ihs =>
  cases f with
  | zero => intro r c cc fr S k ρ a w hc h; cases h
  | succ f =>
    have ih := ihs f (Nat.lt_succ_self f)
    intro r c cc fr S k ρ a w hc h hF hR hP hr
    have leaf : (match exec E (f + 1) cc fr S with | some (e, fr', S') => k e fr' S' | none => false) = true → c.wpIn (FF r) 0 P (Out B w0 ρ S fr.rd k) a w := by
      intro h
      cases hx : exec E (f + 1) cc fr S with
      | none => rw [hx] at h; cases h
      | some q =>
        obtain ⟨e, fr', S'⟩ := q
        rw [hx] at h
        exact wpIn_mono (exec_sound hE (f + 1) r c cc fr S e fr' S' ρ a w hc hx hF hR hP hr) (fun x a' w' ha => ⟨e, fr', S', h, ha⟩)
    cases c
    case seq x y =>
      simp only [compC] at hc
      split at hc
      · rename_i cx cy hx hy
        obtain rfl := Option.some.inj hc
        simp only [chk] at h
        refine wpIn_seq (wpIn_mono (ih r x cx fr S _ ρ a w hx h hF hR hP hr) ?_)
        rintro z a' w' ⟨e, fr', S', hk, rfl, hd', ρ', hp', hF'⟩
        cases e with
        | normal =>
          refine wpIn_mono (ih r y cy fr' S' k ρ' a' w' hy hk hF' hp'.r (hP.sub hp'.sub) (by rw [hd']; exact hr)) (fun z a2 w2 ho => ?_)
          rw [hd'] at ho
          exact ho.behind hp'
        | ret => exact ⟨_, fr', S', hk, rfl, hd', ρ', hp', hF'⟩
        | exit id => exact ⟨_, fr', S', hk, rfl, hd', ρ', hp', hF'⟩
      · cases hc
    case cond t x y =>
      simp only [compC] at hc
      split at hc
      · rename_i ct cx cy ht hx hy
        obtain rfl := Option.some.inj hc
        have hv := hF.ev ht
        simp only [chk] at h
        split at h
        · rename_i e0
          rw [e0] at hv
          generalize hvt : a.eval t = vt at hv
          cases hv
          exact wpIn_cond_true hvt (ih r x cx fr S k ρ a w hx h hF hR hP hr)
        · rename_i e0
          rw [e0] at hv
          generalize hvt : a.eval t = vt at hv
          cases hv
          exact wpIn_cond_false hvt (ih r y cy fr S k ρ a w hy h hF hR hP hr)
        · rename_i e0
          rw [e0] at hv
          generalize hvt : a.eval t = vt at hv
          cases hv
          rename_i hb
          obtain ⟨b, rfl⟩ := hb
          simp only [Bool.and_eq_true] at h
          refine wpIn_cond_split hvt (fun e => ?_) (fun e => ?_)
          · have := ih r x cx (sureO fr ct true) S k ρ a w hx h.1 (sureO_sound ht hF (by rw [hvt, e])) hR hP (by rw [sureO_rd]; exact hr)
            rwa [sureO_rd] at this
          · have := ih r y cy (sureO fr ct false) S k ρ a w hy h.2 (sureO_sound ht hF (by rw [hvt, e])) hR hP (by rw [sureO_rd]; exact hr)
            rwa [sureO_rd] at this
        · cases h
      · cases hc
    case block id x =>
      simp only [compC, Option.map_eq_some_iff] at hc
      obtain ⟨cx, hx, rfl⟩ := hc
      simp only [chk] at h
      refine wpIn_block (wpIn_mono (ih r x cx fr S _ ρ a w hx h hF hR hP hr) ?_)
      rintro z a' w' ⟨e, fr', S', hk, rfl, hd', ρ', hp', hF'⟩
      cases e with
      | normal => exact ⟨_, fr', S', hk, rfl, hd', ρ', hp', hF'⟩
      | ret => exact ⟨_, fr', S', hk, rfl, hd', ρ', hp', hF'⟩
      | exit j =>
        show Exit.inBlock id (Out B w0 ρ S fr.rd k) (.exit j) a' w'
        unfold Exit.inBlock
        simp only [] at hk
        cases hj : Nat.beq j id with
        | true =>
          rw [hj] at hk
          simp only [Nat.eq_of_beq_eq_true hj, if_true]
          exact ⟨_, fr', S', hk, rfl, hd', ρ', hp', hF'⟩
        | false =>
          rw [hj] at hk
          have hne : j ≠ id := by rintro rfl; simp at hj
          simp only [hne, if_false]
          exact ⟨_, fr', S', hk, rfl, hd', ρ', hp', hF'⟩
    case loop x =>
      simp only [compC, Option.map_eq_some_iff] at hc
      obtain ⟨cx, hx, rfl⟩ := hc
      have key : ∀ (g : Nat), g ≤ f + 1 → ∀ (fr1 : AFr) (S1 : St) (ρ1 : Pl) (a1 : Act) (w1 : World), chk E deep g (.loop cx) fr1 S1 k = true → FR ρ1 fr1 a1 → Post B w0 ρ S (fun _ => False) ρ1 S1 w1 → fr1.rd = fr.rd → Code.roundsIn (FF r) 0 P x (Out B w0 ρ S fr.rd k) g a1 w1 := by
        intro g
        induction g with
        | zero => intro _ fr1 S1 ρ1 a1 w1 h1; cases h1
        | succ g ihg =>
          intro hg fr1 S1 ρ1 a1 w1 h1 hF1 hp1 hd1
          simp only [chk] at h1
          refine wpIn_mono (ihs g (by omega) r x cx fr1 S1 _ ρ1 a1 w1 hx h1 hF1 hp1.r (hP.sub hp1.sub) (by rw [hd1]; exact hr)) ?_
          rintro z a' w' ⟨e, fr', S', hk, rfl, hd', ρ', hp', hF'⟩
          have hpp := hp1.more hp'
          have hdd := hd'.trans hd1
          cases e with
          | normal => exact ihg (by omega) fr' S' ρ' a' w' hk hF' hpp hdd
          | ret => exact ⟨_, fr', S', hk, rfl, hdd, ρ', hpp, hF'⟩
          | exit j => exact ⟨_, fr', S', hk, rfl, hdd, ρ', hpp, hF'⟩
      exact wpIn_loop_rounds (f + 1) (key (f + 1) (Nat.le_refl _) fr S ρ a w h hF (.refl hR) rfl)
    case region id ops draw =>
      cases draw with
      | false =>
        simp only [compC, Option.map_eq_some_iff] at hc
        obtain ⟨l, hl, rfl⟩ := hc
        simp only [chk] at h
        apply wpIn_region
        rw [List.range_eq_range']
        refine chkOps_sound hE (exec_sound hE f) ih ops.toList 0 l S.next fr _ _ ρ a w rfl hl h hF (hR.room _) hP (fun q h1 h2 => hR.newFresh _ h1 h2) (fun ρ' a' w' fr' S' hk hp hF' hde => ?_)
        refine ⟨.normal, fr', S', hk, rfl, hde, ρ', ⟨hp.sub, hp.r, Nat.le_trans (Nat.le_add_right _ _) hp.next, fun q _ f => hp.fr q (fun hq => ?_) (f.room _)⟩, hF'⟩
        have := f.lt
        omega
      | true =>
        simp only [compC] at hc
        split at hc
        · rename_i l hl
          split at hc
          · rename_i hok htl
            obtain rfl := Option.some.inj hc
            simp only [chk] at h
            split at h
            · rename_i fr1 S1 tr hr1
              split at h
              · rename_i hlk
                simp only [Bool.and_eq_true] at hlk
                have hln : (setPre (masks (ops.toList.map fun o => edgesOf o.after.toList) []) l).length = ops.size := by rw [setPre_length, compOps_length hl, Array.length_toList]
                rw [hln] at htl hr1 h
                refine draw_front hE (exec_sound hE f) hl hok htl hr1 hlk.1 hlk.2 hF hR hP (fun ρ' a' w' hp hnx hF' hP' hrd hf => ?_)
                rw [List.map_drop, plain_setPre, plain_comp hl] at h
                obtain ⟨hm, -⟩ := okTail_spec htl
                have hdl : (ops.toList.drop (frontLen (masks (ops.toList.map fun o => edgesOf o.after.toList) []) ops.size)).length = ops.size - frontLen (masks (ops.toList.map fun o => edgesOf o.after.toList) []) ops.size := by simp
                rw [← hdl]
                refine chkOps_sound hE (exec_sound hE f) ih _ _ _ _ fr1 S1 _ ρ' a' w' rfl (compOps_drop _ hl) h hF' hp.r hP' (fun q h1 h2 => ?_) (fun ρ2 a2 w2 fr2 S2 hk hp2 hF2 hde => ?_)
                · rw [hdl] at h2
                  have := hf (q - S.next) (by omega) (by omega)
                  rwa [show S.next + (q - S.next) = q by omega] at this
                · refine ⟨.normal, fr2, S2, hk, rfl, hde.trans hrd, ρ2, ⟨hp.sub.trans hp2.sub, hp2.r, Nat.le_trans (by omega) hp2.next, fun q _ f => hp2.fr q (fun hq => ?_) (hp.fr q (fun hq => ?_) f)⟩, hF2⟩
                  · have := f.lt
                    omega
                  · have := f.lt
                    omega
              · cases h
            · cases h
          · cases hc
        · cases hc
    case rangeFunc g ps assign body' =>
      have hc0 := hc
      simp only [compC] at hc
      split at hc
      · rename_i x ca cb hx hca hcb
        obtain rfl := Option.some.inj hc
        simp only [chk] at h
        split at h
        · rename_i q cf first caps hrd hdp
          split at h
          · rename_i hle
            have hr0 : r = none := by
              rcases hr with hr | hr
              · exact hr
              · rw [hrd] at hr; cases hr
            subst hr0
            obtain ⟨hfv, hmz, htab⟩ := deepOf_spec hdp
            have hv := hF.ev hx
            rw [hfv] at hv
            generalize hvg : a.eval g = vg at hv
            cases hv
            rename_i us ys hfs hcs
            refine wpIn_rangeFunc (fun fn _ => ?_)
            obtain ⟨ρ1, w1, hw1, hp1, ⟨rD, hD, hDb⟩, ⟨rL, hL, hLb⟩⟩ := rfn_new (fn := fn) (ps := ps) hF hR (by rw [hP]; exact hca) (by rw [hP]; exact hcb)
            have hy : V ρ1 (.yld (S.next + 1)) (.func (.yield (w.heap.size + 1)) #[] #[]) := by
              rw [← hLb]; exact .yld hL
            obtain ⟨h1, h2⟩ := calls_of_ck hE ih (hE.fn q cf htab) hle h (VL.app (VL.app (hfs.mono hp1.sub) (.one hy)) (hcs.mono hp1.sub)) hp1.r (hP.sub hp1.sub)
            rw [← args_toArray] at h1 h2
            refine ⟨w.heap.size + 1, [{ target := .collected w.heap.size, args := #[] }], w1, { target := .fn (.func q) ys.toArray, args := us.toArray ++ #[.func (.yield (w.heap.size + 1)) #[] #[]] }, w1, q, (us.toArray ++ #[.func (.yield (w.heap.size + 1)) #[] #[]]) ++ ys.toArray, w1, ?_, ?_, fun _ _ => trivial, ?_, fun h => (by simp at h), ?_⟩
            · rw [hw1]; exact run_enterLoop_outer _ _ _ _ _
            · simp [resolve, rangeCall, hvg, Deferred.ofValue, evalConst]
            · simp only [invoke]
              exact h1
            · refine h2.mono ?_
              rintro en w2 ⟨y, vs, S2, rfl, hk, ρ2, hp2, hy2⟩
              split at hk
              case h_2 => cases hk
              rename_i n2 m2 ps2 a2 b2 hl2
              have hL2 := hp2.sub _ _ hL
              obtain ⟨fn2, tmps2, as2, bd2, D2, hh2, hsz2, hfv2, hca2, hcb2⟩ := hp2.r.blk _ _ rL hl2 hL2
              rw [hLb] at hh2
              refine ⟨_, _, run_endLoop hh2 (by simp), ?_⟩
              rw [putObj_wset, ← hLb]
              have hpo := post_obj (ex := fun _ => False) (k' := .gone) (o := .loop { state := .exhausted, pending := none, fn := fn2, tmps := tmps2, params := ps2.toArray, assign := as2, body := bd2, defers := D2 }) hp2.r hl2 (by simp) rfl hL2 (by simp) trivial
              have hsub := hp1.sub.trans (hp2.sub.trans hpo.sub)
              refine ⟨.normal, _, _, hk, rfl, rfl, ρ2, (hp1.more hp2).more hpo, ⟨hF.size, fun t => (hF.at_ t).mono hsub, ?_⟩⟩
              have := DL.cons (hp2.sub _ _ hD) (hF.dl.mono hsub)
              rw [hDb] at this
              exact this
          · cases h
        · exact leaf h
      · cases hc
    case skip => simp only [compC, Option.some.injEq] at hc; subst hc; exact leaf h
    case exit id => simp only [compC, Option.some.injEq] at hc; subst hc; exact leaf h
    case ret => simp only [compC, Option.some.injEq] at hc; subst hc; exact leaf h
    all_goals cases hc

def plStart (P : Program) (th : Nat → Nat) : Pl := ⟨fun _ => none, fun c cc => compC P c = some cc, th⟩
def isTrue : List AV → St → Bool
  | [.bool true], _ => true
  | _, _ => false
/-- The function returns true and leaves what was there as it was. -/
theorem true_of_chk {E : Env} {deep : Nat → Bool} (hE : E.Ok P) (th : Nat → Nat) {f g : Nat} {cf : CFun} {args : List AV} {xs : List Value} (hg : FnOk P g cf) (hl : Nat.ble args.length cf.n = true) (h : chk E deep f cf.body (aframe cf.n args) ⟨.nil, 0⟩ (backK cf isTrue) = true) (hx : VL (plStart P th) args xs) (w : World) :
    Calls P g xs.toArray w (fun en w' => en = .returned (.bool true) ∧ Below w.heap.size w w') := by
  refine Calls.mono (callsIn_wide.1 (calls_of_ck hE (chk_sound hE f) hg hl h hx (R.start w _ th) rfl).2) ?_
  rintro en w' ⟨x, vs, S', rfl, hp, ρ', hpo, hv⟩
  unfold isTrue at hp
  split at hp
  · cases hv
    exact ⟨rfl, hpo.r.below⟩
  · cases hp
/-- New blocks alone: nothing that is known changes. -/
theorem R.grown {w' : World} (h : R B w0 ρ S w) (hb : Below w.heap.size w w') : R B w0 ρ S w' := by
  refine ⟨h.ok, h.below.trans (hb.mono h.base), Nat.le_trans h.base hb.size, fun id r hr => ⟨(h.dom id r hr).1, Nat.lt_of_lt_of_le (h.dom id r hr).2 hb.size⟩, fun id k r hk hr => ?_, h.fresh, h.sep⟩
  exact (h.blk id k r hk hr).same (hb.block r.b (h.dom id r hr).2)
/-- A function that is known to return true and to leave all as it was. -/
theorem post_true {w' : World} (h : R B w0 ρ S w) (hb : Below w.heap.size w w') : Post B w0 ρ S (fun _ => False) ρ S w' :=
  ⟨.refl _, h.grown hb, Nat.le_refl _, fun _ _ f => f⟩
end
end Go.Eng
