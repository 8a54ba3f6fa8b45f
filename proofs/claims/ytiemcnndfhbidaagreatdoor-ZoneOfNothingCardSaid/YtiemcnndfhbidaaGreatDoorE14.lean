/-
  Maps: carried out alike.
-/
import Derived.Test.YtiemcnndfhbidaaGreatDoorE13
set_option linter.unusedSimpArgs false
set_option linter.unusedSectionVars false
namespace Go.Eng
open Go.RowKit (Below)
variable {P : Program} {B : Nat} {w0 w : World} {ρ : Pl} {S : St} {fr : AFr} {a : Act} {rid : Nat}

theorem plainK_spec {t : TypeId} {kk : PK} (h : plainK P t = some kk) : P.underlying t = some .bool ∧ kk = .b ∨ (∃ k, P.underlying t = some (.int k)) ∧ kk = .i ∨ P.underlying t = some .string ∧ kk = .s := by
  unfold plainK at h
  split at h <;> simp_all
/-- A key whose kind is that of the map's keys. -/
def keyT (P : Program) (t : TypeId) (k : AV) : Prop :=
  match k with
  | .bool _ => P.underlying t = some .bool
  | .int _ _ => ∃ j, P.underlying t = some (.int j)
  | .str _ => P.underlying t = some .string
  | _ => False
theorem keyIs_spec {t : TypeId} {kk : PK} {k : AV} (h : plainK P t = some kk) (hk : keyIs kk k = true) : keyT P t k := by
  rcases plainK_spec h with ⟨e, rfl⟩ | ⟨e, rfl⟩ | ⟨e, rfl⟩ <;> cases k <;> simp_all [keyIs, keyT]
theorem run_checkKey {t : TypeId} {kk : PK} {k : AV} {v : Value} (hk : plainK P t = some kk) (e : Bool) (d : Nat) (w : World) (hv : V ρ k v) (hkk : keyIs kk k = true) : (Instr.checkKey e (d + 1) t v).run P w = .ok () w := by
  rcases plainK_spec hk with ⟨h, rfl⟩ | ⟨⟨j, h⟩, rfl⟩ | ⟨h, rfl⟩ <;> cases hv <;> simp [keyIs] at hkk <;> simp [Instr.checkKey, run_underlying h]

theorem beq_bytes (a b : ByteArray) : (a == b) = (bs a == bs b) := by rw [beq_toListBytes, bs_beq]
/-- Two keys are compared. -/
theorem keyEq_now {t : TypeId} {k k' : AV} {v v' : Value} {b : Bool} (hv : V ρ k v) (hv' : V ρ k' v') (h : keyEq k k' = some b) (ht : keyT P t k) {d : TypeDesc} (hd : P.underlying t = some d) : Instr.sameNow d v v' = some b := by
  unfold keyEq at h
  split at h
  · split at h
    · rename_i e
      cases hv; cases hv'
      obtain rfl := Option.some.inj h
      obtain ⟨j, hj⟩ := ht
      obtain rfl := Option.some.inj (hd.symm.trans hj)
      simp [Instr.sameNow, eq_of_beq e]
    · cases h
  · cases hv
    rename_i s1 e1
    cases hv'
    rename_i s2 e2
    subst e1 e2
    obtain rfl := Option.some.inj h
    have ht : P.underlying t = some .string := ht
    obtain rfl := Option.some.inj (hd.symm.trans ht)
    simp [Instr.sameNow, beq_bytes]
  · cases hv; cases hv'
    obtain rfl := Option.some.inj h
    have ht : P.underlying t = some .bool := ht
    obtain rfl := Option.some.inj (hd.symm.trans ht)
    simp [Instr.sameNow]
  · cases h
theorem findE_sound {t : TypeId} {k : AV} {v : Value} (hv : V ρ k v) (ht : keyT P t k) {d : TypeDesc} (hd : P.underlying t = some d) : ∀ {l : List (AV × AV × Nat)} {es : List MapEntry} (i : Nat) {r : Option (Nat × AV)}, EL ρ l es → findE k l i = some r →
    ∃ r', Instr.findNow d v es i = some r' ∧ (match r with
      | none => r' = none
      | some (j, x) => ∃ y e, r' = some (j, y) ∧ V ρ x y ∧ i ≤ j ∧ es[j - i]? = some e ∧ e.val = y ∧ V ρ k e.key ∧ Instr.sameNow d v e.key = some true)
  | _, _, i, r, .nil, h => by
    simp only [findE, Option.some.injEq] at h
    subst h
    exact ⟨none, rfl, rfl⟩
  | _, _, i, r, .cons (k := k') (x := x) (e := e) hk hx hb hl, h => by
    simp only [findE] at h
    split at h
    · rename_i he
      obtain rfl := Option.some.inj h
      have := keyEq_now hv hk he ht hd
      refine ⟨some (i, e.val), by simp [Instr.findNow, this], e.val, e, rfl, hx, Nat.le_refl _, by simp, rfl, ?_, this⟩
      -- the key is the same plain value
      unfold keyEq at he
      split at he
      · split at he
        · rename_i ej
          have := eq_of_beq (Option.some.inj he)
          obtain rfl := eq_of_beq ej
          subst this
          exact hk
        · cases he
      · have := eq_of_beq (Option.some.inj he)
        subst this
        exact hk
      · have := eq_of_beq (Option.some.inj he)
        subst this
        exact hk
      · cases he
    · rename_i he
      have hn := keyEq_now hv hk he ht hd
      obtain ⟨r', h1, h2⟩ := findE_sound hv ht hd (i + 1) hl h
      refine ⟨r', by simp [Instr.findNow, hn, h1], ?_⟩
      cases r with
      | none => exact h2
      | some p =>
        obtain ⟨j, x'⟩ := p
        obtain ⟨y, e', g1, g2, g3, g4, g5⟩ := h2
        refine ⟨y, e', g1, g2, by omega, ?_, g5⟩
        rw [show j - i = (j - (i + 1)) + 1 by omega]
        simpa using g4
    · cases h
theorem EL.toList_get {l : List (AV × AV × Nat)} {es : List MapEntry} (h : EL ρ l es) : l.length = es.length := by
  induction h with
  | nil => rfl
  | cons _ _ _ _ ih => simp [ih]
theorem EL.app {l l' : List (AV × AV × Nat)} {es es' : List MapEntry} (h : EL ρ l es) (h' : EL ρ l' es') : EL ρ (l ++ l') (es ++ es') := by
  induction h with
  | nil => exact h'
  | cons a b c _ ih => exact .cons a b c ih
theorem EL.setE {k x : AV} {v y : Value} (hk : V ρ k v) (hx : V ρ x y) : ∀ {l : List (AV × AV × Nat)} {es : List MapEntry} (i : Nat), EL ρ l es → EL ρ (Eng.setE k x l i) (es.modify i fun e => { e with key := v, val := y })
  | _, _, _, .nil => by simp [Eng.setE]; exact .nil
  | _, _, 0, .cons _ _ c t => by simp [Eng.setE]; exact .cons hk hx c t
  | _, _, i + 1, .cons a b c t => by simp [Eng.setE]; exact .cons a b c (EL.setE hk hx i t)
theorem EL.erase : ∀ {l : List (AV × AV × Nat)} {es : List MapEntry} (i : Nat), EL ρ l es → EL ρ (l.eraseIdx i) (es.eraseIdx i)
  | _, _, _, .nil => by simp; exact .nil
  | _, _, 0, .cons _ _ _ t => by simpa using t
  | _, _, i + 1, .cons a b c t => by simp; exact .cons a b c (EL.erase i t)
theorem run_getObj {b : Nat} {o : Obj} (h : w.heap[b]? = some o) (hc : ∀ c t f, o ≠ .cells c t f) : (getObj b).run P w = .ok o w := by
  cases o <;> first | (exact absurd rfl (hc _ _ _)) | simp [getObj, Sem.run, h]
theorem run_setObj {b : Nat} {o o' : Obj} (h : w.heap[b]? = some o) (hc : ∀ c t f, o ≠ .cells c t f) : (setObj b o').run P w = .ok () (wset w b o') := by
  cases o <;> first | (exact absurd rfl (hc _ _ _)) | (simp [setObj, Sem.run, h]; rfl)
theorem run_findKey {t : TypeId} {k : AV} {v : Value} {d : TypeDesc} {es : List MapEntry} {r : Option (Nat × Value)} (hd : P.underlying t = some d) (h : Instr.findNow d v es 0 = some r) (w : World) (_ : V ρ k v) : (Instr.findKey t v es).run P w = .ok r w := by
  simp [Instr.findKey, run_underlying hd, h]
theorem mapOf_sound {v : AV} {u : Value} {es : List (AV × AV × Nat)} (hR : R B w0 ρ S w) (hv : V ρ v u) (h : mapOf S v = some es) :
    ∃ ces : Array MapEntry, EL ρ es ces.toList ∧ ((u = .map none ∧ ces = #[]) ∨ ∃ b clock, u = .map (some b) ∧ w.heap[b]? = some (.map ces clock)) := by
  unfold mapOf at h
  split at h
  · obtain rfl := Option.some.inj h
    cases hv
    exact ⟨#[], .nil, .inl ⟨rfl, rfl⟩⟩
  · rename_i id
    split at h
    · rename_i es' clock hg
      obtain rfl := Option.some.inj h
      cases hv
      rename_i r hr
      obtain ⟨ces, hh, hl⟩ := hR.blk id _ r hg hr
      exact ⟨ces, hl, .inr ⟨r.b, clock, rfl, hh⟩⟩
    · cases h
  · cases h

theorem memN_contains (n : Nat) : ∀ l : List Nat, memN n l = l.contains n
  | [] => rfl
  | m :: r => by
    have e : Nat.beq n m = (n == m) := by rw [Bool.eq_iff_iff]; simp
    simp only [memN, List.contains_cons, e, memN_contains n r]
    cases (n == m) <;> simp
theorem EL.left {l : List (AV × AV × Nat)} {es : List MapEntry} (seen : List Nat) (h : EL ρ l es) : EL ρ (leftE seen l) (es.filter fun e => !seen.toArray.contains e.born) := by
  induction h with
  | nil => exact .nil
  | cons a b c _ ih =>
    subst c
    simp only [leftE, memN_contains, List.filter_cons]
    rename_i e l es _
    by_cases hc : e.born ∈ seen
    · simpa [hc] using ih
    · simpa [hc] using EL.cons a b rfl (by simpa using ih)
theorem noneBelow_all {l : List (AV × AV × Nat)} {es : List MapEntry} (last : Nat) (h : EL ρ l es) : noneBelow last l = es.all (fun e => decide (e.born ≥ last)) := by
  induction h with
  | nil => rfl
  | cons a b c _ ih =>
    subst c
    rename_i e l es _
    simp only [noneBelow, List.all_cons, ih]
    by_cases hc : last ≤ e.born
    · rw [Nat.ble_eq_true_of_le hc]; simp [hc]
    · have : Nat.ble last e.born = false := by
        cases hb : Nat.ble last e.born
        · rfl
        · exact absurd (Nat.le_of_ble_eq_true hb) hc
      rw [this]; simp [hc]
theorem findB_sound {l : List (AV × AV × Nat)} {es : List MapEntry} {n : Nat} {k v : AV} (h : EL ρ l es) (hf : findB n l = some (k, v)) : ∃ e, es.find? (fun e => e.born == n) = some e ∧ V ρ k e.key ∧ V ρ v e.val := by
  induction h with
  | nil => cases hf
  | cons a b c _ ih =>
    subst c
    rename_i e l es _
    simp only [findB] at hf
    have e' : Nat.beq e.born n = (e.born == n) := by rw [Bool.eq_iff_iff]; simp
    split at hf
    · rename_i hb
      obtain ⟨rfl, rfl⟩ := Prod.mk.inj (Option.some.inj hf)
      rw [e'] at hb
      exact ⟨e, by simp [List.find?_cons, hb], a, b⟩
    · rename_i hb
      rw [e'] at hb
      obtain ⟨e2, g1, g2, g3⟩ := ih hf
      exact ⟨e2, by simp [List.find?_cons, hb, g1], g2, g3⟩

section
variable {o : Oper} {x y z : Operand} {p q r : Opd} (hF : FR ρ fr a) (hR : R B w0 ρ S w)
include hF hR

theorem sound_mkmap {t : TypeId} {v : AV} {S' : St} (hf : Fresh ρ S rid) (ho : o.op = .makeMap t none) (h : aop .mkmap fr.ev rid S = some (v, S')) : Good P B w0 ρ S rid a w o v S' := by
  obtain ⟨rfl, rfl⟩ := Prod.mk.inj (Option.some.inj h)
  have hst := step_new (o := .map #[] 0) (tot := 0) hR hf (k := .map [] 0) trivial ⟨#[], by rw [alloc_get, if_pos rfl], .nil⟩
  refine ⟨_, _, _, hst, .mp (r := ⟨w.heap.size, 0, 0⟩) (upd_self _ _ _), .inl ?_⟩
  simp only [execOp, ho]
  refine run_v ?_
  simp [Instr.makeMap]

theorem sound_lookup {t kt et : TypeId} {kk : PK} {ok : Bool} {zv : AV} {v : AV} {S' : St} (ho : o.op = .lookup t x y ok) (hu : P.underlying t = some (.map kt et)) (hk : plainK P kt = some kk) (hz : zeroV P et = some zv) (hx : cOpd x = some p) (hy : cOpd y = some q)
    (h : aop (.lookup kk ok zv p q) fr.ev rid S = some (v, S')) : Good P B w0 ρ S rid a w o v S' := by
  have hv := hF.ev hx
  have hvy := hF.ev hy
  obtain ⟨d, hd⟩ : ∃ d, P.underlying kt = some d := by rcases plainK_spec hk with ⟨h, -⟩ | ⟨⟨j, h⟩, -⟩ | ⟨h, -⟩ <;> exact ⟨_, h⟩
  have hzr : ∃ u, (zeroValue et).run P w = .ok u w ∧ V ρ zv u := by
    unfold zeroV at hz
    split at hz
    · rename_i i hi
      split at hz
      · rename_i u hu'
        exact ⟨u, by simp [zeroValue, typeInfo, hi, hu'], ofVal_sound hz⟩
      · cases hz
    · cases hz
  obtain ⟨zu, hzu, hzv⟩ := hzr
  simp only [aop] at h
  split at h
  · rename_i es hkk hes
    obtain ⟨ces, hl, hm⟩ := mapOf_sound hR hv hes
    have hkt := keyIs_spec hk hkk
    have hck := run_checkKey (P := P) hk ces.isEmpty 9999 w hvy hkk
    have hex : ∀ r : Option (Nat × Value), (Instr.findKey kt (a.eval y) ces.toList).run P w = .ok r w →
        (execOp a.eval o).run P w = .ok (.value (if ok then .tuple #[(match r with | some (_, v) => v | none => zu), .bool r.isSome] else (match r with | some (_, v) => v | none => zu))) w := by
      intro r hr
      simp only [execOp, ho]
      refine run_v ?_
      rcases hm with ⟨e1, rfl⟩ | ⟨b, clock, e1, hh⟩
      · simp only [Instr.lookup, Sem.run_bind, run_underlying hu, Result.andThen, e1, Sem.run_pure]
        cases r with
        | none => cases ok <;> simp_all [hck, hr, hzu]
        | some p => cases ok <;> simp_all [hck, hr]
      · simp only [Instr.lookup, Sem.run_bind, run_underlying hu, Result.andThen, e1, run_getObj hh (by simp), Sem.run_pure]
        cases r with
        | none => cases ok <;> simp_all [hck, hr, hzu]
        | some p => cases ok <;> simp_all [hck, hr]
    split at h
    · cases h
    · rename_i hfe
      obtain ⟨rfl, rfl⟩ := Prod.mk.inj (Option.some.inj h)
      obtain ⟨r', g1, g2⟩ := findE_sound (P := P) hvy hkt hd 0 hl hfe
      simp only [] at g2
      subst g2
      have hfk := run_findKey (P := P) (k := fr.ev q) hd g1 w hvy
      cases ok with
      | true => exact good_same hR (.tup (.cons hzv (.cons .bool .nil))) (hex none hfk)
      | false => exact good_same hR hzv (hex none hfk)
    · rename_i j u hfe
      obtain ⟨rfl, rfl⟩ := Prod.mk.inj (Option.some.inj h)
      obtain ⟨r', g1, y', e, rfl, g3, -⟩ := findE_sound (P := P) hvy hkt hd 0 hl hfe
      have hfk := run_findKey (P := P) (k := fr.ev q) hd g1 w hvy
      cases ok with
      | true => exact good_same hR (.tup (.cons g3 (.cons .bool .nil))) (hex _ hfk)
      | false => exact good_same hR g3 (hex _ hfk)
  · cases h


theorem run_keyStays {k : AV} {v v' : Value} {kk : PK} (hk : keyIs kk k = true) (hv : V ρ k v) (hv' : V ρ k v') (w : World) : (Instr.keyThatStays v' v).run P w = .ok v w := by
  have : Instr.sameBits (9999 + 1) v' v = true := by
    cases hv <;> cases hv' <;> simp_all [keyIs, Instr.sameBits, beq_bytes]
  unfold Instr.keyThatStays
  rw [this]
  rfl
theorem step_setmap {id : Nat} {rr : Real} {es es' : List (AV × AV × Nat)} {clock clock' : Nat} {ces : Array MapEntry} (hg : S.get id = some (.map es clock)) (hr : ρ id = some rr) (hl : EL ρ es' ces.toList) :
    Step B w0 ρ S rid ρ (S.put id (.map es' clock')) (wset w rr.b (.map ces clock')) := by
  refine ⟨.refl _, hR.set hg hr rfl (hR.solo_obj hg (by simp) hr) (hR.ok.obj (by simp)) ⟨ces, ?_, hl⟩, rfl, fun q _ hq => ⟨hq.lt, hq.un, ?_⟩⟩
  · rw [wset_get, if_pos rfl, if_pos (hR.dom id rr hr).2]
  · intro j c p w' a' t' hj
    rw [St.get_put] at hj
    by_cases e : j = id
    · rw [if_pos e] at hj; cases hj
    · rw [if_neg e] at hj; exact hq.rt j c p w' a' t' hj
theorem sound_mapset {t kt et : TypeId} {kk : PK} {v : AV} {S' : St} (ho : o.op = .mapUpdate t x y z ∨ o.op = .insert t x y z) (hu : P.underlying t = some (.map kt et)) (hk : plainK P kt = some kk) (hx : cOpd x = some p) (hy : cOpd y = some q) (hz : cOpd z = some r)
    (h : aop (.mapset kk p q r) fr.ev rid S = some (v, S')) : Good P B w0 ρ S rid a w o v S' := by
  have hv := hF.ev hx
  have hvy := hF.ev hy
  have hvz := hF.ev hz
  obtain ⟨d, hd⟩ : ∃ d, P.underlying kt = some d := by rcases plainK_spec hk with ⟨h, -⟩ | ⟨⟨j, h⟩, -⟩ | ⟨h, -⟩ <;> exact ⟨_, h⟩
  have hex : ∀ w', (Instr.mapUpdate t (a.eval x) (a.eval y) (a.eval z)).run P w = .ok () w' → (execOp a.eval o).run P w = .ok .skip w' := by
    intro w' hr
    rcases ho with ho | ho <;> · simp only [execOp, ho]; exact run_u hr
  simp only [aop] at h
  split at h
  · rename_i id hkk ep
    split at h
    · rename_i es clock hg
      rw [ep] at hv
      generalize hvx : a.eval x = vx at hv hex
      cases hv
      rename_i rr hr
      obtain ⟨ces, hh, hl⟩ := hR.blk id _ rr hg hr
      have hkt := keyIs_spec hk hkk
      have hck := run_checkKey (P := P) hk false 9999 w hvy hkk
      split at h
      · cases h
      · rename_i hfe
        obtain ⟨rfl, rfl⟩ := Prod.mk.inj (Option.some.inj h)
        obtain ⟨r', g1, g2⟩ := findE_sound (P := P) hvy hkt hd 0 hl hfe
        simp only [] at g2
        subst g2
        have hfk := run_findKey (P := P) (k := fr.ev q) hd g1 w hvy
        have hl' : EL ρ (es ++ [(fr.ev q, fr.ev r, clock)]) (ces.push { key := a.eval y, val := a.eval z, born := clock }).toList := by
          rw [Array.toList_push]
          exact hl.app (.cons hvy hvz rfl .nil)
        refine ⟨ρ, undef, _, step_setmap hF hR hg hr hl', .undef, .inr ⟨hex _ ?_, rfl⟩⟩
        have hso := run_setObj (P := P) (o' := .map (ces.push { key := a.eval y, val := a.eval z, born := clock }) (clock + 1)) hh (by simp)
        simp [Instr.mapUpdate, run_underlying hu, run_getObj hh (by simp), hck, hfk, hso]
      · rename_i i u hfe
        obtain ⟨rfl, rfl⟩ := Prod.mk.inj (Option.some.inj h)
        obtain ⟨r', g1, y', e, rfl, g3, g4, g5, g6, g7, g8⟩ := findE_sound (P := P) hvy hkt hd 0 hl hfe
        have hfk := run_findKey (P := P) (k := fr.ev q) hd g1 w hvy
        have hl' : EL ρ (setE (fr.ev q) (fr.ev r) es i) (ces.modify i fun e => { e with key := a.eval y, val := a.eval z }).toList := by
          rw [Array.toList_modify]
          exact EL.setE hvy hvz i hl
        refine ⟨ρ, undef, _, step_setmap hF hR hg hr hl', .undef, .inr ⟨hex _ ?_, rfl⟩⟩
        have hso := run_setObj (P := P) (o' := .map (ces.modify i fun e => { e with key := a.eval y, val := a.eval z }) clock) hh (by simp)
        have hcei : ces[i]? = some e := by simpa using g5
        have hks := run_keyStays (P := P) hF hR hkk hvy g7 w
        simp [Instr.mapUpdate, run_underlying hu, run_getObj hh (by simp), hck, hfk, hcei, hks, hso]
    · cases h
  · cases h
theorem sound_del {c : Call} {st kt et : TypeId} {kk : PK} {v : AV} {S' : St} (ho : o.op = .call c) (hb : c.callee = .builtin .delete) (hc : c.args.toList = [x, y]) (h0 : c.argTypes[0]? = some st) (hu : P.underlying st = some (.map kt et)) (hk : plainK P kt = some kk)
    (hx : cOpd x = some p) (hy : cOpd y = some q) (h : aop (.del kk p q) fr.ev rid S = some (v, S')) : Good P B w0 ρ S rid a w o v S' := by
  have hv := hF.ev hx
  have hvy := hF.ev hy
  obtain ⟨d, hd⟩ : ∃ d, P.underlying kt = some d := by rcases plainK_spec hk with ⟨h, -⟩ | ⟨⟨j, h⟩, -⟩ | ⟨h, -⟩ <;> exact ⟨_, h⟩
  have hex : ∀ r w', (Builtin.delete_ c.argTypes o.type #[a.eval x, a.eval y]).run P w = .ok r w' → (execOp a.eval o).run P w = .ok (.value r) w' :=
    fun r w' hr => exec_builtin ho hb hc (fun _ => rfl) (by simpa using hr)
  have e2 : ∀ u v : Value, (#[u, v] : Array Value)[0]? = some u ∧ (#[u, v] : Array Value)[1]? = some v := fun _ _ => ⟨rfl, rfl⟩
  simp only [aop] at h
  split at h
  · rename_i hkk ep
    obtain ⟨rfl, rfl⟩ := Prod.mk.inj (Option.some.inj h)
    rw [ep] at hv
    generalize hvx : a.eval x = vx at hv hex
    cases hv
    have hck := run_checkKey (P := P) hk true 9999 w hvy hkk
    refine good_same hR .undef (hex _ _ ?_)
    simp [Builtin.delete_, h0, (e2 _ _).1, (e2 _ _).2, run_underlying hu, hck]
    rfl
  · rename_i id hkk ep
    split at h
    · rename_i es clock hg
      rw [ep] at hv
      generalize hvx : a.eval x = vx at hv hex
      cases hv
      rename_i rr hr
      obtain ⟨ces, hh, hl⟩ := hR.blk id _ rr hg hr
      have hkt := keyIs_spec hk hkk
      have hck := run_checkKey (P := P) hk ces.isEmpty 9999 w hvy hkk
      split at h
      · cases h
      · rename_i hfe
        obtain ⟨rfl, rfl⟩ := Prod.mk.inj (Option.some.inj h)
        obtain ⟨r', g1, g2⟩ := findE_sound (P := P) hvy hkt hd 0 hl hfe
        simp only [] at g2
        subst g2
        have hfk := run_findKey (P := P) (k := fr.ev q) hd g1 w hvy
        have hso := run_setObj (P := P) (o' := .map ces clock) hh (by simp)
        rw [wset_self hh] at hso
        refine good_same hR .undef (hex _ _ ?_)
        simp [Builtin.delete_, h0, (e2 _ _).1, (e2 _ _).2, run_underlying hu, run_getObj hh (by simp), hck, hfk, hso]
        rfl
      · rename_i i u hfe
        obtain ⟨rfl, rfl⟩ := Prod.mk.inj (Option.some.inj h)
        obtain ⟨r', g1, y', e, rfl, g3, g4, g5, g6, g7, g8⟩ := findE_sound (P := P) hvy hkt hd 0 hl hfe
        have hfk := run_findKey (P := P) (k := fr.ev q) hd g1 w hvy
        have hl' : EL ρ (es.eraseIdx i) (ces.eraseIdxIfInBounds i).toList := by
          have : (ces.eraseIdxIfInBounds i).toList = ces.toList.eraseIdx i := by
            unfold Array.eraseIdxIfInBounds
            split
            · simp
            · rename_i hlt
              rw [List.eraseIdx_of_length_le (by simpa using hlt)]
          rw [this]
          exact EL.erase i hl
        refine ⟨ρ, undef, _, step_setmap hF hR hg hr hl', .undef, .inl (hex _ _ ?_)⟩
        have hso := run_setObj (P := P) (o' := .map (ces.eraseIdxIfInBounds i) clock) hh (by simp)
        simp [Builtin.delete_, h0, (e2 _ _).1, (e2 _ _).2, run_underlying hu, run_getObj hh (by simp), hck, hfk, hso]
        rfl
    · cases h
  · cases h

theorem sound_range {t kt et : TypeId} {v : AV} {S' : St} (hf : Fresh ρ S rid) (ho : o.op = .range t x) (hu : P.underlying t = some (.map kt et)) (hx : cOpd x = some p)
    (h : aop (.range p) fr.ev rid S = some (v, S')) : Good P B w0 ρ S rid a w o v S' := by
  have hv := hF.ev hx
  simp only [aop] at h
  split at h
  · rename_i ep
    obtain ⟨rfl, rfl⟩ := Prod.mk.inj (Option.some.inj h)
    rw [ep] at hv
    generalize hvx : a.eval x = vx at hv
    cases hv
    have hst := step_new (o := .mapIter none 0 #[] 0) (tot := 0) hR hf (k := .iter none 0 [] 0) trivial ⟨rfl, none, by rw [alloc_get, if_pos rfl], rfl⟩
    refine ⟨_, _, _, hst, .ptr (r := ⟨w.heap.size, 0, 0⟩) (upd_self _ _ _), .inl ?_⟩
    simp only [execOp, ho, hvx]
    refine run_v ?_
    simp [Instr.range, run_underlying hu]
  · rename_i id ep
    split at h
    · rename_i es clock hg
      obtain ⟨rfl, rfl⟩ := Prod.mk.inj (Option.some.inj h)
      rw [ep] at hv
      generalize hvx : a.eval x = vx at hv
      cases hv
      rename_i rr hr
      obtain ⟨ces, hh, hl⟩ := hR.blk id _ rr hg hr
      have hst := step_new (o := .mapIter (some rr.b) clock #[] clock) (tot := 0) hR hf (k := .iter (some id) clock [] clock) trivial
        ⟨rfl, some rr.b, by rw [alloc_get, if_pos rfl], rr, (sub_upd _ hf.un) _ _ hr, rfl⟩
      refine ⟨_, _, _, hst, .ptr (r := ⟨w.heap.size, 0, 0⟩) (upd_self _ _ _), .inl ?_⟩
      simp only [execOp, ho, hvx]
      refine run_v ?_
      simp [Instr.range, run_underlying hu, run_getObj hh (by simp)]
    · cases h
  · cases h
theorem sound_next {it : Operand} {v : AV} {S' : St} (ho : o.op = .next it false) (hx : cOpd it = some p)
    (h : aop (.next p) fr.ev rid S = some (v, S')) : Good P B w0 ρ S rid a w o v S' := by
  have hv := hF.ev hx
  simp only [aop] at h
  split at h
  · rename_i id ep
    rw [ep] at hv
    generalize hvx : a.eval it = vx at hv
    cases hv
    rename_i rr hr
    have hex : ∀ r w', (Instr.next (.pointer (some ⟨rr.b, rr.sh + 0, none⟩)) false o.type).run P w = .ok r w' → (execOp a.eval o).run P w = .ok (.value r) w' := by
      intro r w' hr
      simp only [execOp, ho, hvx]
      exact run_v hr
    split at h
    · rename_i since seen last hg
      obtain ⟨rfl, rfl⟩ := Prod.mk.inj (Option.some.inj h)
      obtain ⟨hz, rm, hh, rfl⟩ := hR.blk id _ rr hg hr
      refine good_same hR (.tup (.cons .bool .nil)) (hex (.tuple #[.bool false]) _ ?_)
      simp [Instr.next, hz, run_getObj hh (by simp)]
    · rename_i m since seen last hg
      obtain ⟨hz, rm, hh, qm, hqm, rfl⟩ := hR.blk id _ rr hg hr
      split at h
      · rename_i es clock hgm
        obtain ⟨ces, hhm, hl⟩ := hR.blk m _ qm hgm hqm
        split at h
        · cases h
        · rename_i hguard
          have hgd : (!seen.toArray.isEmpty && !ces.isEmpty && ces.all (fun e => decide (e.born ≥ last))) = false := by
            have hall : ces.all (fun e => decide (e.born ≥ last)) = noneBelow last es := by
              rw [noneBelow_all last hl]; simp
            rw [hall]
            have hlen := hl.toList_get
            cases seen with
            | nil => simp
            | cons s seen =>
              cases es with
              | nil =>
                have : ces.isEmpty = true := by
                  rw [Array.isEmpty_iff_size_eq_zero]
                  simpa using hlen.symm
                simp [this]
              | cons e es =>
                simp only [Bool.not_eq_true'] at hguard
                simp [hguard]
          have hleft := hl.left seen
          have hnx : ∀ (left : Array MapEntry), ces.filter (fun e => !seen.toArray.contains e.born) = left → left.toList = ces.toList.filter (fun e => !seen.toArray.contains e.born) := by
            intro left e; rw [← e]; simp
          split at h
          · rename_i hle
            obtain ⟨rfl, rfl⟩ := Prod.mk.inj (Option.some.inj h)
            rw [hle] at hleft
            generalize hfl : ces.toList.filter (fun e => !seen.toArray.contains e.born) = fl at hleft
            cases hleft
            have hla : ces.filter (fun e => !seen.toArray.contains e.born) = #[] := by
              apply Array.ext'; simpa using hfl
            refine good_same hR (.tup (.cons .bool .nil)) (hex (.tuple #[.bool false]) _ ?_)
            simp only [Instr.next, hz, Nat.zero_add, Sem.run_bind, run_getObj hh (by simp), Result.andThen, run_getObj hhm (by simp), hgd, Bool.false_eq_true, if_false, hla]
            simp [Question.forced]
          · rename_i k x b hle
            split at h
            · rename_i hb
              obtain ⟨rfl, rfl⟩ := Prod.mk.inj (Option.some.inj h)
              rw [hle] at hleft
              generalize hfl : ces.toList.filter (fun e => !seen.toArray.contains e.born) = fl at hleft
              cases hleft
              rename_i e es' hvk hvx' hbn ht
              cases ht
              subst hbn
              have hla : ces.filter (fun e => !seen.toArray.contains e.born) = #[e] := by
                apply Array.ext'; simpa using hfl
              have hb : e.born < since := by simpa [Nat.blt, Nat.succ_le_iff] using hb
              have hso := run_setObj (P := P) (o' := .mapIter (some qm.b) since (seen.toArray.push e.born) clock) hh (by simp)
              have hst : Step B w0 ρ S rid ρ (S.put id (.iter (some m) since (seen ++ [e.born]) clock)) (wset w rr.b (.mapIter (some qm.b) since (seen.toArray.push e.born) clock)) := by
                refine ⟨.refl _, hR.set hg hr rfl (hR.solo_obj hg (by simp) hr) (hR.ok.obj (by simp)) ⟨hz, some qm.b, ?_, qm, hqm, rfl⟩, rfl, fun q _ hq => ⟨hq.lt, hq.un, ?_⟩⟩
                · rw [wset_get, if_pos rfl, if_pos (hR.dom id rr hr).2]
                  simp
                · intro j c p w' a' t' hj
                  rw [St.get_put] at hj
                  by_cases e : j = id
                  · rw [if_pos e] at hj; cases hj
                  · rw [if_neg e] at hj; exact hq.rt j c p w' a' t' hj
              refine ⟨ρ, .tuple #[.bool true, e.key, e.val], _, hst, .tup (.cons .bool (.cons hvk (.cons hvx' .nil))), .inl (hex _ _ ?_)⟩
              have hnb : ¬ (since ≤ e.born) := by omega
              simp only [Instr.next, hz, Nat.zero_add, Sem.run_bind, run_getObj hh (by simp), Result.andThen, run_getObj hhm (by simp), hgd, Bool.false_eq_true, if_false, hla]
              have hso' : (setObj rr.b (.mapIter (some qm.b) since (seen ++ [e.born]).toArray clock)).run P w = .ok () (wset w rr.b (.mapIter (some qm.b) since (seen ++ [e.born]).toArray clock)) := by simpa using hso
              simp [Question.forced, hb, hnb, hso']
            · cases h
          · cases h
      · cases h
    · cases h
  · cases h

theorem sound_entry {it : Operand} {v : AV} {S' : St} (ho : o.op = .entry it) (hx : cOpd it = some p)
    (h : aop (.entry p) fr.ev rid S = some (v, S')) : Good P B w0 ρ S rid a w o v S' := by
  have hv := hF.ev hx
  simp only [aop] at h
  split at h
  · rename_i id ep
    rw [ep] at hv
    generalize hvx : a.eval it = vx at hv
    cases hv
    rename_i rr hr
    split at h
    · rename_i m since seen stepped hg
      obtain ⟨hz, rm, hh, qm, hqm, rfl⟩ := hR.blk id _ rr hg hr
      split at h
      · rename_i es clock stamp hgm hlast
        obtain ⟨ces, hhm, hl⟩ := hR.blk m _ qm hgm hqm
        split at h
        · rename_i hc
          have hc := Nat.eq_of_beq_eq_true hc
          split at h
          · rename_i k x hfb
            obtain ⟨rfl, rfl⟩ := Prod.mk.inj (Option.some.inj h)
            obtain ⟨e, g1, g2, g3⟩ := findB_sound hl hfb
            refine good_same hR (x := .tuple #[e.key, e.val]) (.tup (.cons g2 (.cons g3 .nil))) ?_
            simp only [execOp, ho, hvx]
            refine run_v ?_
            have hf : ces.find? (fun e => e.born == stamp) = some e := by rw [← Array.find?_toList]; exact g1
            have hbk : seen.toArray.back? = some stamp := by simpa using hlast
            simp [Instr.entry, hz, run_getObj hh (by simp), hbk, run_getObj hhm (by simp), hc, hf]
          · cases h
        · cases h
      · cases h
    · cases h
  · cases h
end
end Go.Eng
