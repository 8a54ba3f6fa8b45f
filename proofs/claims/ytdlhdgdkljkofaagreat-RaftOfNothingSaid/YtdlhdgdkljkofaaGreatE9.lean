/-
  The least, the greatest, lengths, structs compared: carried out alike.
-/
import Derived.Test.YtdlhdgdkljkofaaGreatE8
set_option linter.unusedSimpArgs false
set_option linter.unusedSectionVars false
namespace Go.Eng
open Go.RowKit (Below)
variable {P : Program} {B : Nat} {w0 w : World} {ρ : Pl} {S : St} {fr : AFr} {a : Act} {rid : Nat}

theorem ivals_sound (hF : FR ρ fr a) : ∀ {xs : List Operand} {ps : List Opd} {l : List (IntKind × Int)}, cOpds xs = some ps → ivals fr.ev ps = some l → xs.map a.eval = l.map fun p => Value.int p.1 p.2
  | [], ps, l, hc, h => by
    simp only [cOpds, Option.some.injEq] at hc
    subst hc
    simp only [ivals, Option.some.injEq] at h
    subst h
    rfl
  | x :: xs, ps, l, hc, h => by
    simp only [cOpds] at hc
    split at hc
    · rename_i p hp
      simp only [Option.map_eq_some_iff] at hc
      obtain ⟨qs, hqs, rfl⟩ := hc
      have hv := hF.ev hp
      simp only [ivals] at h
      split at h
      · rename_i k n e
        simp only [Option.map_eq_some_iff] at h
        obtain ⟨r, hr, rfl⟩ := h
        rw [e] at hv
        generalize hvx : a.eval x = vx at hv
        cases hv
        simp [hvx, ivals_sound hF hqs hr]
      · cases h
    · cases hc
theorem foldMin_sound (k : IntKind) : ∀ (l : List (IntKind × Int)) (n : Int), V ρ (foldMin k n l) (.int k (l.foldl (fun x p => if p.2 < x then p.2 else x) n)) ∧
    ((l.map fun p => Value.int p.1 p.2).foldlM Builtin.min2 (.int k n)).run P w = .ok (.int k (l.foldl (fun x p => if p.2 < x then p.2 else x) n)) w
  | [], n => ⟨.int, rfl⟩
  | (j, m) :: l, n => by
    have e : foldMin k n ((j, m) :: l) = foldMin k (if m < n then m else n) l := by by_cases h : m < n <;> simp [foldMin, h]
    obtain ⟨h1, h2⟩ := foldMin_sound k l (if m < n then m else n)
    refine ⟨by rw [e, List.foldl_cons]; exact h1, ?_⟩
    simp only [List.map_cons, List.foldlM_cons, Builtin.min2, pure_bind, List.foldl_cons]
    exact h2
theorem foldMax_sound (k : IntKind) : ∀ (l : List (IntKind × Int)) (n : Int), V ρ (foldMax k n l) (.int k (l.foldl (fun x p => if p.2 > x then p.2 else x) n)) ∧
    ((l.map fun p => Value.int p.1 p.2).foldlM Builtin.max2 (.int k n)).run P w = .ok (.int k (l.foldl (fun x p => if p.2 > x then p.2 else x) n)) w
  | [], n => ⟨.int, rfl⟩
  | (j, m) :: l, n => by
    have e : foldMax k n ((j, m) :: l) = foldMax k (if m > n then m else n) l := by by_cases h : m > n <;> simp [foldMax, h]
    obtain ⟨h1, h2⟩ := foldMax_sound k l (if m > n then m else n)
    refine ⟨by rw [e, List.foldl_cons]; exact h1, ?_⟩
    simp only [List.map_cons, List.foldlM_cons, Builtin.max2, pure_bind, List.foldl_cons]
    exact h2

/-- A call of a built-in: what is carried out. -/
theorem exec_builtin {o : Oper} {c : Call} {b : Builtin} {xs : List Operand} (ho : o.op = .call c) (hb : c.callee = .builtin b) (hx : c.args.toList = xs) {s : Sem Value} {x : Value} {w' : World}
    (he : ∀ cs, builtin b c.argTypes o.type cs (xs.map a.eval).toArray = (do Pure.pure (Next.value (← s)))) (h : s.run P w = .ok x w') :
    (execOp a.eval o).run P w = .ok (.value x) w' := by
  have e : c.args.map a.eval = (xs.map a.eval).toArray := by subst hx; exact Array.ext' (by simp)
  simp only [execOp, ho, resolve, hb, e, pure_bind, invoke]
  rw [he]
  simp [h]

theorem eqFields_sound {t : TypeId} (d : Nat) {us vs : Array Value} : ∀ (fs : List Field) (k : Nat) (ks : List PK) (xs ys : List AV) (b : Bool), plainF P fs k = some ks → VL ρ xs (us.toList.drop k) → VL ρ ys (vs.toList.drop k) → aEqs ks xs ys = some b →
    (Op.eqFields (d + 1) us vs fs).run P w = .ok b w
  | [], k, ks, xs, ys, b, hp, hx, hy, h => by
    simp only [plainF, Option.some.injEq] at hp
    subst hp
    cases xs <;> cases ys <;> simp only [aEqs] at h
    · obtain rfl := Option.some.inj h
      rfl
    all_goals cases h
  | f :: fs, k, ks, xs, ys, b, hp, hx, hy, h => by
    simp only [plainF] at hp
    split at hp
    · rename_i q hq hk hn hg
      simp only [Option.map_eq_some_iff] at hp
      obtain ⟨ks, hks, rfl⟩ := hp
      have hk := Nat.eq_of_beq_eq_true hk
      have hn : f.name ≠ "_" := of_decide_eq_false hn
      cases xs with
      | nil => simp [aEqs] at h
      | cons x xs =>
        cases ys with
        | nil => simp [aEqs] at h
        | cons y ys =>
          have ex : ∃ u, us[k]? = some u ∧ V ρ x u ∧ VL ρ xs (us.toList.drop (k + 1)) := by
            generalize hd : us.toList.drop k = l at hx
            cases hx
            rename_i u l' hu hl
            refine ⟨u, ?_, hu, ?_⟩
            · have := congrArg (·[0]?) hd
              simpa using this
            · rw [← List.drop_drop (i := 1), hd]
              exact hl
          have ey : ∃ u, vs[k]? = some u ∧ V ρ y u ∧ VL ρ ys (vs.toList.drop (k + 1)) := by
            generalize hd : vs.toList.drop k = l at hy
            cases hy
            rename_i u l' hu hl
            refine ⟨u, ?_, hu, ?_⟩
            · have := congrArg (·[0]?) hd
              simpa using this
            · rw [← List.drop_drop (i := 1), hd]
              exact hl
          obtain ⟨u, hu, hvu, hxs⟩ := ex
          obtain ⟨v, hv, hvv, hys⟩ := ey
          simp only [aEqs] at h
          have h1 : ∃ c, aEq1 q x y = some c ∧ (Op.equalIn (d + 1) f.type u v).run P w = .ok c w := by
            cases hc : aEq1 q x y with
            | none => simp [hc] at h
            | some c =>
              refine ⟨c, rfl, ?_⟩
              unfold aEq1 at hc
              split at hc
              · cases hvu; cases hvv
                obtain rfl := Option.some.inj hc
                have : P.underlying f.type = some .bool := by
                  split at hq <;> simp_all
                simp [Op.equalIn, run_underlying this]
              · split at hc
                · rename_i hjk
                  cases hvu; cases hvv
                  obtain rfl := Option.some.inj hc
                  have : ∃ k, P.underlying f.type = some (.int k) := by
                    split at hq <;> simp_all
                  obtain ⟨k', hk'⟩ := this
                  simp [Op.equalIn, run_underlying hk', eq_of_beq hjk]
                · cases hc
              · cases hvu
                rename_i s1 e1
                cases hvv
                rename_i s2 e2
                subst e1 e2
                obtain rfl := Option.some.inj hc
                have : P.underlying f.type = some .string := by
                  split at hq <;> simp_all
                rw [← bs_beq]
                simp [Op.equalIn, run_underlying this, beq_toListBytes]
              · cases hc
          obtain ⟨c, hc, hrun⟩ := h1
          have p1 : ∀ w, (part f.type us f.offset).run P w = .ok u w := fun w => by simp [part, run_aggT hg, hk, hu]
          have p2 : ∀ w, (part f.type vs f.offset).run P w = .ok v w := fun w => by simp [part, run_aggT hg, hk, hv]
          simp only [Op.eqFields, ne_eq, hn, not_false_eq_true, if_true, Sem.run_bind, p1, p2, Result.andThen, hrun, Sem.run_ite]
          rw [hc] at h
          cases c with
          | true => simpa using eqFields_sound (t := t) d fs (k + 1) ks xs ys b hks hxs hys h
          | false =>
            simp only [] at h
            split at h
            · obtain rfl := Option.some.inj h
              rfl
            · cases h
    · cases hp

section
variable {o : Oper} {x y : Operand} {p q : Opd} (hF : FR ρ fr a) (hR : R B w0 ρ S w)
include hF hR

theorem sound_mn {c : Call} {xs : List Operand} {ps : List Opd} {v : AV} {S' : St} (ho : o.op = .call c) (hb : c.callee = .builtin .min) (hx : c.args.toList = x :: xs) (hp : cOpd x = some p) (hps : cOpds xs = some ps)
    (h : aop (.mn p ps) fr.ev rid S = some (v, S')) : Good P B w0 ρ S rid a w o v S' := by
  have hv := hF.ev hp
  simp only [aop] at h
  split at h
  · rename_i k n l e el
    obtain ⟨rfl, rfl⟩ := Prod.mk.inj (Option.some.inj h)
    rw [e] at hv
    generalize hvx : a.eval x = vx at hv
    cases hv
    obtain ⟨h1, h2⟩ := foldMin_sound (P := P) (w := w) (ρ := ρ) k l n
    refine good_same hR h1 (exec_builtin ho hb hx (fun _ => rfl) ?_)
    simp only [Builtin.min_, List.map_cons, hvx, ivals_sound hF hps el]
    exact h2
  · cases h
theorem sound_mx {c : Call} {xs : List Operand} {ps : List Opd} {v : AV} {S' : St} (ho : o.op = .call c) (hb : c.callee = .builtin .max) (hx : c.args.toList = x :: xs) (hp : cOpd x = some p) (hps : cOpds xs = some ps)
    (h : aop (.mx p ps) fr.ev rid S = some (v, S')) : Good P B w0 ρ S rid a w o v S' := by
  have hv := hF.ev hp
  simp only [aop] at h
  split at h
  · rename_i k n l e el
    obtain ⟨rfl, rfl⟩ := Prod.mk.inj (Option.some.inj h)
    rw [e] at hv
    generalize hvx : a.eval x = vx at hv
    cases hv
    obtain ⟨h1, h2⟩ := foldMax_sound (P := P) (w := w) (ρ := ρ) k l n
    refine good_same hR h1 (exec_builtin ho hb hx (fun _ => rfl) ?_)
    simp only [Builtin.max_, List.map_cons, hvx, ivals_sound hF hps el]
    exact h2
  · cases h
theorem sound_len {c : Call} {t : TypeId} {d : TypeDesc} {k : LK} {v : AV} {S' : St} (ho : o.op = .call c) (hb : c.callee = .builtin .len) (hx : c.args.toList = [x]) (ht : c.argTypes[0]? = some t) (hu : P.underlying t = some d)
    (hd : (d = .string ∧ k = .str) ∨ ((∃ e, d = .slice e) ∧ k = .sl) ∨ ((∃ k e, d = .map k e) ∧ k = .m)) (hp : cOpd x = some p)
    (h : aop (.len k p) fr.ev rid S = some (v, S')) : Good P B w0 ρ S rid a w o v S' := by
  have hv := hF.ev hp
  have key : ∀ r, (Builtin.len_ c.argTypes o.type (List.map a.eval [x]).toArray).run P w = .ok r w → (execOp a.eval o).run P w = .ok (.value r) w := fun r hr => exec_builtin ho hb hx (fun _ => rfl) hr
  simp only [aop] at h
  split at h
  · rename_i s e
    rcases hd with ⟨rfl, -⟩ | ⟨-, hk⟩ | ⟨-, hk⟩ <;> first | (cases hk; done) | skip
    obtain ⟨rfl, rfl⟩ := Prod.mk.inj (Option.some.inj h)
    rw [e] at hv
    generalize hvx : a.eval x = vx at hv
    cases hv
    rename_i s hs
    refine good_same hR ?_ (key (goInt s.size) (by simp [Builtin.len_, hvx, ht, run_underlying hu]))
    rw [← hs, bs_length]
    exact .int
  · rename_i e
    rcases hd with ⟨-, hk⟩ | ⟨⟨el, rfl⟩, -⟩ | ⟨-, hk⟩ <;> first | (cases hk; done) | skip
    obtain ⟨rfl, rfl⟩ := Prod.mk.inj (Option.some.inj h)
    rw [e] at hv
    generalize hvx : a.eval x = vx at hv
    cases hv
    exact good_same hR .int (key (goInt 0) (by simp [Builtin.len_, hvx, ht, run_underlying hu]))
  · rename_i i of n kk e
    rcases hd with ⟨-, hk⟩ | ⟨⟨el, rfl⟩, -⟩ | ⟨-, hk⟩ <;> first | (cases hk; done) | skip
    obtain ⟨rfl, rfl⟩ := Prod.mk.inj (Option.some.inj h)
    rw [e] at hv
    generalize hvx : a.eval x = vx at hv
    cases hv
    exact good_same hR .int (key (goInt n) (by simp [Builtin.len_, hvx, ht, run_underlying hu]))
  · rename_i e
    rcases hd with ⟨-, hk⟩ | ⟨⟨el, rfl⟩, -⟩ | ⟨-, hk⟩ <;> first | (cases hk; done) | skip
    obtain ⟨rfl, rfl⟩ := Prod.mk.inj (Option.some.inj h)
    rw [e] at hv
    generalize hvx : a.eval x = vx at hv
    cases hv
    rename_i hh
    obtain ⟨p, n, c, rfl⟩ := hh
    exact good_same hR (.any ⟨_, rfl⟩) (key (goInt n) (by simp [Builtin.len_, hvx, ht, run_underlying hu]))
  · rename_i e
    rcases hd with ⟨-, hk⟩ | ⟨-, hk⟩ | ⟨⟨kt, et, rfl⟩, -⟩ <;> first | (cases hk; done) | skip
    obtain ⟨rfl, rfl⟩ := Prod.mk.inj (Option.some.inj h)
    rw [e] at hv
    generalize hvx : a.eval x = vx at hv
    cases hv
    exact good_same hR .int (key (goInt 0) (by simp [Builtin.len_, hvx, ht, run_underlying hu]))
  · rename_i i e
    rcases hd with ⟨-, hk⟩ | ⟨-, hk⟩ | ⟨⟨kt, et, rfl⟩, -⟩ <;> first | (cases hk; done) | skip
    split at h
    · rename_i es clock hg
      obtain ⟨rfl, rfl⟩ := Prod.mk.inj (Option.some.inj h)
      rw [e] at hv
      generalize hvx : a.eval x = vx at hv
      cases hv
      rename_i r hr
      obtain ⟨ces, hh, hl⟩ := hR.blk i _ r hg hr
      have hlen : ∀ {l : List (AV × AV × Nat)} {es : List MapEntry}, EL ρ l es → l.length = es.length := by
        intro l es h
        induction h with
        | nil => rfl
        | cons _ _ _ _ ih => simp [ih]
      refine good_same hR ?_ (key (goInt ces.size) ?_)
      · rw [hlen hl]
        exact .int
      · simp [Builtin.len_, hvx, ht, run_underlying hu, getObj, Sem.run, hh]
    · cases h
  · cases h
theorem sound_eqs {ks : List PK} {neg : Bool} {op : BinOp} {t u : TypeId} {fields : Array Field} {v : AV} {S' : St} (ho : o.op = .binOp op t x y u) (hop : op = if neg then .neq else .eql) (hu : P.underlying t = some (.struct fields))
    (hk : plainF P fields.toList 0 = some ks) (hs : P.stoodInHeld t = false) (hg : P.eqGuardType P.depth t = false) (hx : cOpd x = some p) (hy : cOpd y = some q)
    (h : aop (.eqs ks neg p q) fr.ev rid S = some (v, S')) : Good P B w0 ρ S rid a w o v S' := by
  have h1 := hF.ev hx
  have h2 := hF.ev hy
  simp only [aop] at h
  split at h
  · rename_i xs ys e1 e2
    simp only [Option.map_eq_some_iff, Prod.mk.injEq] at h
    obtain ⟨b, hb, rfl, rfl⟩ := h
    rw [e1] at h1
    rw [e2] at h2
    generalize hvx : a.eval x = vx at h1
    generalize hvy : a.eval y = vy at h2
    cases h1
    rename_i us hus
    cases h2
    rename_i vs hvs
    have hf : P.fieldsOf t = fields := by simp [Program.fieldsOf, hu]
    have hrun : (Op.equalIn 10000 t (.agg us.toArray) (.agg vs.toArray)).run P w = .ok b w := by
      rw [run_equalIn_struct (P := P) w 9999 t us.toArray vs.toArray (by rw [hf]; exact hu) hs, hf]
      exact eqFields_sound (t := t) 9998 fields.toList 0 ks xs ys b hk (by simpa using hus) (by simpa using hvs) hb
    have hex : ∀ r, (binOp op t (.agg us.toArray) (.agg vs.toArray)).run P w = .ok r w → (execOp a.eval o).run P w = .ok (.value r) w := by
      intro r hr
      simp only [execOp, ho, hvx, hvy]
      refine run_v ?_
      rw [Sem.run_bind, run_eqGuard_agg w op t x y _ _ hg]
      exact hr
    cases neg with
    | true =>
      subst hop
      refine good_same hR .bool (hex (.bool !b) ?_)
      simp only [if_true]
      rw [run_neq_struct, hrun]
      rfl
    | false =>
      subst hop
      refine good_same hR .bool (hex (.bool b) ?_)
      simp only [Bool.false_eq_true, if_false]
      rw [run_eql_struct, hrun]
      rfl
  · cases h
theorem sound_lenc {c : Call} {n : Nat} {v : AV} {S' : St} (ho : o.op = .call c) (hb : c.callee = .builtin .len) (hx : c.args.toList = [x])
    (ht : (Builtin.len_ c.argTypes o.type (List.map a.eval [x]).toArray).run P w = .ok (goInt n) w)
    (h : aop (.lenc n) fr.ev rid S = some (v, S')) : Good P B w0 ρ S rid a w o v S' := by
  obtain ⟨rfl, rfl⟩ := Prod.mk.inj (Option.some.inj h)
  exact good_same hR .int (exec_builtin ho hb hx (fun _ => rfl) ht)
end
end Go.Eng
