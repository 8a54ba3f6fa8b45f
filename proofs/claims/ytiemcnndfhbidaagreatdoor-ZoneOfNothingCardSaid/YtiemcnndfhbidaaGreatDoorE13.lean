/-
  append, copy, clear: carried out alike.
-/
import Derived.Test.YtiemcnndfhbidaaGreatDoorE12
set_option linter.unusedSimpArgs false
namespace Go.Eng
open Go.RowKit (Below)
variable {P : Program} {B : Nat} {w0 w : World} {ρ : Pl} {S : St} {fr : AFr} {a : Act} {rid : Nat}

/-- Into a new block. -/
theorem step_grow {id off : Nat} {cs : List (Option AV)} {root pos : Nat} {wr al : Bool} {r : Real} {news : List AV} {xs rest : List Value} {ty : TypeId} (hR : R B w0 ρ S w) (hf : Fresh ρ S rid)
    (hg : S.get id = some (.cells cs root pos wr al true)) (hr : ρ id = some r) (hl : VL ρ news xs) (he : cs.length ≤ off + news.length) :
    Step B w0 ρ S rid (upd ρ rid ⟨w.heap.size, 0, (xs ++ rest).length⟩) (appSt S id rid cs (news.map some) root pos off wr) (w.alloc (.cells (xs ++ rest).toArray ty)) := by
  have hne : rid ≠ id := by rintro rfl; rw [hf.un] at hr; cases hr
  have hsub := sub_upd (ρ := ρ) ⟨w.heap.size, 0, (xs ++ rest).length⟩ hf.un
  refine ⟨hsub, ⟨appSt_ok hR.ok hg hne (by rw [List.length_map]; exact he), alloc_below hR.below hR.base _, by have := hR.base; simp; omega, ?_, ?_, ?_, ?_⟩, rfl, fun q hq hfq => appSt_fresh hg (by rw [hr]; simp) hq hfq⟩
  · intro j r' hj
    by_cases e : j = rid
    · subst e
      rw [upd_self] at hj
      obtain rfl := Option.some.inj hj
      exact ⟨hf.lt, by simp⟩
    · rw [upd_ne _ _ e] at hj
      have := hR.dom j r' hj
      exact ⟨this.1, by simp; omega⟩
  · intro j k r' hj hr'
    rw [appSt_get] at hj
    by_cases e : j = rid
    · subst e
      rw [if_pos rfl] at hj
      obtain rfl := Option.some.inj hj
      rw [upd_self] at hr'
      obtain rfl := Option.some.inj hr'
      exact row_rel' hl hsub ty
    · rw [if_neg e] at hj
      rw [upd_ne _ _ e] at hr'
      have hd := (hR.dom j r' hr').2
      have hsame : (w.alloc (.cells (xs ++ rest).toArray ty)).heap[r'.b]? = w.heap[r'.b]? := by rw [alloc_get, if_neg (by omega)]
      by_cases e' : j = id
      · subst e'
        rw [if_pos rfl] at hj
        obtain rfl := Option.some.inj hj
        exact ((hR.blk j _ r' hg hr').mono hsub).same hsame
      · rw [if_neg e'] at hj
        exact ((hR.blk j k r' hj hr').mono hsub).same hsame
  · intro j k r' hj hr' hm
    rw [appSt_get] at hj
    by_cases e : j = rid
    · subst e
      rw [upd_self] at hr'
      obtain rfl := Option.some.inj hr'
      exact hR.base
    · rw [if_neg e] at hj
      rw [upd_ne _ _ e] at hr'
      by_cases e' : j = id
      · subst e'
        rw [if_pos rfl] at hj
        obtain rfl := Option.some.inj hj
        exact hR.fresh j _ r' hg hr' hm
      · rw [if_neg e'] at hj
        exact hR.fresh j k r' hj hr' hm
  · intro i k1 r1 j k2 r2 hi h1' hj h2' hij hb
    by_cases ei : i = rid
    · have ej : j ≠ rid := fun e => hij (ei.trans e.symm)
      subst ei
      rw [upd_self] at h1'
      obtain rfl := Option.some.inj h1'
      rw [upd_ne _ _ ej] at h2'
      have := (hR.dom j r2 h2').2
      simp at hb
      omega
    · rw [upd_ne _ _ ei] at h1'
      by_cases ej : j = rid
      · subst ej
        rw [upd_self] at h2'
        obtain rfl := Option.some.inj h2'
        have := (hR.dom i r1 h1').2
        simp at hb
        omega
      · rw [upd_ne _ _ ej] at h2'
        rw [appSt_get, if_neg ei] at hi
        rw [appSt_get, if_neg ej] at hj
        by_cases ei' : i = id
        · subst ei'
          rw [if_pos rfl] at hi
          obtain rfl := Option.some.inj hi
          rw [if_neg (Ne.symm hij)] at hj
          have := hR.sep i _ r1 j k2 r2 hg h1' hj h2' hij hb
          cases k2 <;> exact this
        · rw [if_neg ei'] at hi
          by_cases ej' : j = id
          · subst ej'
            rw [if_pos rfl] at hj
            obtain rfl := Option.some.inj hj
            have := hR.sep i k1 r1 j _ r2 hi h1' hg h2' hij hb
            cases k1 <;> exact this
          · rw [if_neg ej'] at hj
            exact hR.sep i k1 r1 j k2 r2 hi h1' hj h2' hij hb

section
variable {st ty e xt : TypeId} {sz n len c : Nat} {base : Option Addr} {x : Value} {ys : List Value} {argTypes : Array TypeId} (h0 : argTypes[0]? = some st) (h1 : argTypes[1]? = some xt) (hu : P.underlying st = some (.slice e))
    (hx : ∀ d, P.underlying xt = some d → ∀ k, d ≠ .int k) (hxs : (P.underlying xt).isSome = true) (hn : sizeT P e = some sz) (hl : (Builtin.lenOf x).run P w = .ok n w)
include h0 h1 hu hx hxs hn hl
/-- What append does, in the model: there is room. -/
theorem run_append_fits (hf : (Builtin.firstCells sz n x).run P w = .ok ys.toArray w) (hle : len + n ≤ c) {w' : World}
    (hs : ∀ ad, base = some ad → (storeCells (ad.add (len * sz)) ys).run P w = .ok () w') (hw : base = none → w' = w) :
    (Builtin.append_ argTypes ty #[.slice base len c, x]).run P w = .ok (.slice base (len + n) c) w' := by
  obtain ⟨d, hd⟩ := Option.isSome_iff_exists.1 hxs
  unfold Builtin.append_
  simp only [h0, h1]
  have e1 : (#[Value.slice base len c, x] : Array Value)[0]? = some (.slice base len c) := rfl
  have e2 : (#[Value.slice base len c, x] : Array Value)[1]? = some x := rfl
  simp only [e1, e2, Sem.run_bind, run_underlying hu, Result.andThen, run_sizeT hn, run_underlying hd, Sem.run_pure]
  cases d <;> first
    | exact absurd rfl (hx _ hd _)
    | (cases base with
       | none => simp [hl, hle, hf, hw rfl]
       | some ad => simp [hl, hle, hf, hs ad rfl])
/-- There is none. -/
theorem run_append_new {i : TypeInfo} {z : Value} {xs : List Value} (hi : P.info? e = some i) (hz : i.zero = some z) (hzs : z.cells.size = sz) (hb : 1 ≤ i.bytes) (hf : ∀ w', w'.heap = w.heap → (Builtin.firstCells sz n x).run P w' = .ok ys.toArray w')
    (ho : ∀ w', w'.heap = w.heap → (Builtin.firstCells sz len (.slice base len c)).run P w' = .ok xs.toArray w') (hgt : c < len + n) (hby : (len + n) * i.bytes ≤ mostCells) :
    ∃ cap rest, len + n ≤ cap ∧ rest.length = (cap - (len + n)) * sz ∧ (Builtin.append_ argTypes ty #[.slice base len c, x]).run P w = .ok (.slice (some ⟨w.heap.size, 0, none⟩) (len + n) cap) (w.drew.alloc (.cells (xs ++ ys ++ rest).toArray e)) := by
  obtain ⟨d, hd⟩ := Option.isSome_iff_exists.1 hxs
  refine ⟨(Question.appendCap (len + n) c e).cut (w.tape w.drawn (.appendCap (len + n) c e)), (Builtin.zeroCells z.cells ((Question.appendCap (len + n) c e).cut (w.tape w.drawn (.appendCap (len + n) c e)) - (len + n))).toList, ?_, ?_, ?_⟩
  · simp [Question.cut]
  · rw [Array.length_toList, size_zeroCells, hzs]
  · have hsize : i.size = sz := by simp [sizeT, hi] at hn; exact hn
    have hnl : ¬ (len + n ≤ c) := by omega
    have hbig : ¬ (Builtin.nextslicecap (len + n) c * i.bytes > 2 ^ 48) := by
      have := growslice_fits (need := len + n) (old := c) (bytes := i.bytes) (by omega) hby
      omega
    have hb0 : ¬ (i.bytes = 0) := by omega
    unfold Builtin.append_
    simp only [h0, h1]
    have e1 : (#[Value.slice base len c, x] : Array Value)[0]? = some (.slice base len c) := rfl
    have e2 : (#[Value.slice base len c, x] : Array Value)[1]? = some x := rfl
    simp only [e1, e2, Sem.run_bind, run_underlying hu, Result.andThen, run_sizeT hn, run_underlying hd, Sem.run_pure]
    have hty : ∀ w, (typeInfo e).run P w = .ok i w := fun w => by simp [typeInfo, hi]
    have hzv : ∀ w, (zeroValue e).run P w = .ok z w := fun w => by simp [zeroValue, typeInfo, hi, hz]
    have hf1 := hf w.drew rfl
    have ho1 := ho w.drew rfl
    cases d <;> first
      | exact absurd rfl (hx _ hd _)
      | (simp [hl, hnl, hty, hb0, hbig, hzv, Question.forced, hf1, ho1, run_newRow]
         congr 2; apply Array.ext'; simp)
end

section
variable {o : Oper} {x y : Operand} {p q : Opd} (hF : FR ρ fr a) (hR : R B w0 ρ S w)
include hF hR

theorem sound_append {c : Call} {st e xt : TypeId} {i : TypeInfo} {z : Value} {zs : List AV} {v : AV} {S' : St} (hf : Fresh ρ S rid) (ho : o.op = .call c) (hb : c.callee = .builtin .append) (hx : c.args.toList = [x, y]) (h0 : c.argTypes[0]? = some st) (h1 : c.argTypes[1]? = some xt)
    (hu : P.underlying st = some (.slice e)) (hxt : ∀ d, P.underlying xt = some d → ∀ k, d ≠ .int k) (hxs : (P.underlying xt).isSome = true) (hi : P.info? e = some i) (hz : i.zero = some z) (hzs : z.cells.size = i.size) (hby : 1 ≤ i.bytes)
    (hp : cOpd x = some p) (hq : cOpd y = some q)
    (h : aop (.append i.size i.bytes zs p q) fr.ev rid S = some (v, S')) : Good P B w0 ρ S rid a w o v S' := by
  have hv := hF.ev hp
  have hvy := hF.ev hq
  have hn : sizeT P e = some i.size := by simp [sizeT, hi]
  have hex : ∀ r w', (Builtin.append_ c.argTypes o.type #[a.eval x, a.eval y]).run P w = .ok r w' → (execOp a.eval o).run P w = .ok (.value r) w' :=
    fun r w' hr => exec_builtin ho hb hx (fun _ => rfl) (by simpa using hr)
  simp only [aop, aAppend] at h
  split at h
  · cases h
  · rename_i n new hel
    obtain ⟨ys, g1, g2, g3, g4⟩ := elems_sound (P := P) hR hvy hel
    have g5 : ∀ w', w'.heap = w.heap → (Builtin.firstCells i.size n (a.eval y)).run P w' = .ok ys.toArray w' := fun w' hw' => by
      have := g4 n (Nat.le_refl n) w' hw'
      rwa [← g2, List.take_length] at this
    split at h
    · cases h
    · rename_i hone
      have hone := allOne_mem hone
      split at h
      · rename_i ep
        rw [ep] at hv
        generalize hvx : a.eval x = vx at hv hex
        cases hv
        split at h
        · obtain ⟨rfl, rfl⟩ := Prod.mk.inj (Option.some.inj h)
          have hys : ys = [] := List.eq_nil_of_length_eq_zero (by rw [g2, Nat.zero_mul])
          subst hys
          refine good_same hR .nils (hex _ _ ?_)
          exact run_append_fits h0 h1 hu hxt hxs hn g3 (g5 w rfl) (Nat.le_refl _) (fun ad h => by cases h) (fun _ => rfl)
        · rename_i n
          split at h
          · rename_i hle
            obtain ⟨rfl, rfl⟩ := Prod.mk.inj (Option.some.inj h)
            have hle := Nat.le_of_ble_eq_true hle
            obtain ⟨cap, rest, c1, c2, c3⟩ := run_append_new (P := P) (w := w) (ty := o.type) (base := none) (len := 0) (c := 0) (xs := []) h0 h1 hu hxt hxs hn g3 hi hz hzs hby g5 (fun w' _ => by simp [Builtin.firstCells]) (by omega) (by simpa using hle)
            simp only [Nat.zero_add, List.nil_append] at c1 c2 c3
            have hst := step_new (o := .cells (ys ++ rest).toArray e) hR.drew hf (k := .cells (new.map some) rid 0 true true true) (tot := (ys ++ rest).length) ⟨rfl, rfl, rfl⟩
              (row_rel' (w := w.drew) (rest := rest) g1 (sub_upd _ hf.un) e)
            refine ⟨_, _, _, hst, ?_, .inl (hex _ _ c3)⟩
            refine .sl (r := ⟨w.heap.size, 0, (ys ++ rest).length⟩) (upd_self _ _ _) c1 ?_ (.inr rfl)
            show 0 + 0 + cap * i.size ≤ (ys ++ rest).length
            rw [List.length_append, g2, c2, ← Nat.add_mul, Nat.zero_add]
            exact Nat.mul_le_mul_right _ (by omega : cap ≤ _)
          · cases h
      · rename_i id off len cap ep
        rw [ep] at hv
        generalize hvx : a.eval x = vx at hv hex
        cases hv
        rename_i cc r ad hr hlen had hfit
        split at h
        · obtain ⟨rfl, rfl⟩ := Prod.mk.inj (Option.some.inj h)
          have hys : ys = [] := List.eq_nil_of_length_eq_zero (by rw [g2, Nat.zero_mul])
          subst hys
          refine good_same hR (.sl hr hlen hfit had) (hex _ _ ?_)
          exact run_append_fits h0 h1 hu hxt hxs hn g3 (g5 w rfl) (by omega) (fun ad h => by simp [storeCells]) (fun h => by cases h)
        · rename_i n
          split at h
          · rename_i cs root pos wr al tl hg
            split at h
            · rename_i old hrd hle
              have hle := Nat.le_of_ble_eq_true hle
              have hel' : elems S i.size (.sl id off len cap) = some (len, old) := by simp [elems, read_at hg hrd]
              obtain ⟨xs, k1, k2, k3, k4⟩ := elems_sound (P := P) hR (V.sl hr hlen hfit had) hel'
              have k5 : ∀ w', w'.heap = w.heap → (Builtin.firstCells i.size len (.slice (some ad) len cc)).run P w' = .ok xs.toArray w' := fun w' hw' => by
                have := k4 len (Nat.le_refl _) w' hw'
                rwa [← k2, List.take_length] at this
              have grow : ¬ (len + (n + 1) ≤ cc) → ∃ cap rest, len + (n + 1) ≤ cap ∧ rest.length = (cap - (len + (n + 1))) * i.size ∧
                  (execOp a.eval o).run P w = .ok (.value (.slice (some ⟨w.heap.size, 0, none⟩) (len + (n + 1)) cap)) (w.drew.alloc (.cells ((xs ++ ys) ++ rest).toArray e)) := fun hgt => by
                obtain ⟨cap, rest, c1, c2, c3⟩ := run_append_new (P := P) (w := w) (ty := o.type) h0 h1 hu hxt hxs hn g3 hi hz hzs hby g5 k5 (by omega) hle
                exact ⟨cap, rest, c1, c2, hex _ _ c3⟩
              have hfit' : ∀ cap rest, len + (n + 1) ≤ cap → rest.length = (cap - (len + (n + 1))) * i.size → 0 + 0 + cap * i.size ≤ ((xs ++ ys) ++ rest).length := by
                intro cap rest c1 c2
                rw [List.length_append, List.length_append, k2, g2, c2, ← Nat.add_mul, ← Nat.add_mul, Nat.zero_add]
                exact Nat.mul_le_mul_right _ (by omega : cap ≤ _)
              split at h
              · rename_i c0
                have hfit : cc = c0 := hfit
                subst hfit
                split at h
                · rename_i hroom
                  have hroom := Nat.le_of_ble_eq_true hroom
                  split at h
                  · simp only [Option.map_eq_some_iff, Prod.mk.injEq] at h
                    obtain ⟨cs', hcs', rfl, rfl⟩ := h
                    have had := had.resolve_left (by omega)
                    have hwr : writeAt S id (off + len * i.size) new = some (S.put id (.cells cs' root pos true true tl)) := by simp [writeAt, hg, hcs']
                    obtain ⟨w', hst, hstep⟩ := write_sound (P := P) (rid := rid) hR hr hwr g1
                    refine ⟨ρ, _, w', hstep, .sl hr (by omega) rfl (.inr had), .inl (hex _ _ ?_)⟩
                    refine run_append_fits h0 h1 hu hxt hxs hn g3 (g5 w rfl) hroom (fun ad' h => ?_) (fun h => by cases h)
                    obtain rfl := Option.some.inj h
                    rw [had, add_eq, Nat.add_assoc]
                    exact hst
                  · cases h
                · rename_i hroom
                  obtain ⟨rfl, rfl⟩ := Prod.mk.inj (Option.some.inj h)
                  have hroom : ¬ (len + (n + 1) ≤ cc) := fun hh => by rw [Nat.ble_eq_true_of_le hh] at hroom; cases hroom
                  obtain ⟨cap, rest, c1, c2, c3⟩ := grow hroom
                  have hst := step_new (o := .cells ((xs ++ ys) ++ rest).toArray e) hR.drew hf (k := .cells ((old ++ new).map some) rid 0 true true true) (tot := ((xs ++ ys) ++ rest).length) ⟨rfl, rfl, rfl⟩
                    (row_rel' (w := w.drew) (rest := rest) (VL.app k1 g1) (sub_upd _ hf.un) e)
                  exact ⟨_, _, _, hst, .sl (r := ⟨w.heap.size, 0, ((xs ++ ys) ++ rest).length⟩) (upd_self _ _ _) c1 (hfit' cap rest c1 c2) (.inr rfl), .inl c3⟩
              · rename_i zz
                have hfit : r.sh + off + cc * zz ≤ r.tot := hfit
                split at h
                · rename_i e1 e2
                  obtain rfl := Nat.eq_of_beq_eq_true e1
                  have e2 := Nat.eq_of_beq_eq_true e2
                  obtain ⟨rfl, rfl⟩ := Prod.mk.inj (Option.some.inj h)
                  by_cases hroom : len + (n + 1) ≤ cc
                  · have had := had.resolve_left (by omega)
                    have hmul : len * i.size + ys.length ≤ cc * i.size := by rw [g2, ← Nat.add_mul]; exact Nat.mul_le_mul_right _ hroom
                    obtain ⟨w', hst, hstep⟩ := step_place (P := P) hR hf hg hr hrd e2 g1 hone hfit hmul
                    refine ⟨_, _, w', hstep, .sl (r := ⟨r.b, r.sh + off, r.tot⟩) (upd_self _ _ _) hroom ?_ (.inr had), .inl (hex _ _ ?_)⟩
                    · show r.sh + off + 0 + cc * i.size ≤ r.tot
                      omega
                    · refine run_append_fits h0 h1 hu hxt hxs hn g3 (g5 w rfl) hroom (fun ad' h => ?_) (fun h => by cases h)
                      obtain rfl := Option.some.inj h
                      rw [had, add_eq]
                      exact hst
                  · obtain ⟨cap, rest, c1, c2, c3⟩ := grow hroom
                    have hst := step_grow (ty := e) (rest := rest) hR.drew hf hg hr (VL.app k1 g1) (off := off) (by
                      rw [List.length_append, ← e2, (readCells_spec _ _ _ _ hrd).1]; omega)
                    exact ⟨_, _, _, hst, .sl (r := ⟨w.heap.size, 0, ((xs ++ ys) ++ rest).length⟩) (upd_self _ _ _) c1 (hfit' cap rest c1 c2) (.inr rfl), .inl c3⟩
                · cases h
            · cases h
          · cases h
      · cases h

theorem sound_copy {c : Call} {st e : TypeId} {n : Nat} {v : AV} {S' : St} (ho : o.op = .call c) (hb : c.callee = .builtin .copy) (hx : c.args.toList = [x, y]) (h0 : c.argTypes[0]? = some st) (hu : P.underlying st = some (.slice e)) (hn : sizeT P e = some n)
    (hp : cOpd x = some p) (hq : cOpd y = some q)
    (h : aop (.copy n p q) fr.ev rid S = some (v, S')) : Good P B w0 ρ S rid a w o v S' := by
  have hv := hF.ev hp
  have hvy := hF.ev hq
  have hex : ∀ r w', (Builtin.copy_ c.argTypes o.type #[a.eval x, a.eval y]).run P w = .ok r w' → (execOp a.eval o).run P w = .ok (.value r) w' :=
    fun r w' hr => exec_builtin ho hb hx (fun _ => rfl) (by simpa using hr)
  have e2 : ∀ u v : Value, (#[u, v] : Array Value)[0]? = some u ∧ (#[u, v] : Array Value)[1]? = some v := fun _ _ => ⟨rfl, rfl⟩
  simp only [aop] at h
  split at h
  · rename_i id off len cap ep
    rw [ep] at hv
    generalize hvx : a.eval x = vx at hv hex
    cases hv
    rename_i cc r ad hr hlen had hfit
    split at h
    · rename_i m new hel
      obtain ⟨ys, g1, g2, g3, g4⟩ := elems_sound (P := P) hR hvy hel
      split at h
      · rename_i hm
        obtain ⟨rfl, rfl⟩ := Prod.mk.inj (Option.some.inj h)
        refine good_same hR (x := goInt 0) .int (hex _ _ ?_)
        have := g4 0 (Nat.zero_le _) w rfl
        simp [Builtin.copy_, h0, (e2 _ _).1, (e2 _ _).2, run_underlying hu, g3, run_sizeT hn, hm, this, storeCells]
      · rename_i k hm
        split at h
        · rename_i S1 hS1
          obtain ⟨rfl, rfl⟩ := Prod.mk.inj (Option.some.inj h)
          have hlt : 0 < len := by
            have : Nat.min m len ≤ len := Nat.min_le_right _ _
            rw [hm] at this; omega
          have had := had.resolve_left (by omega)
          subst had
          obtain ⟨w', hst, hstep⟩ := write_sound (P := P) (rid := rid) hR hr hS1 (VL.take ((k + 1) * n) g1)
          refine ⟨ρ, goInt (k + 1 : Nat), w', hstep, .int, .inl (hex _ _ ?_)⟩
          have hmk : k + 1 ≤ m := by rw [← Nat.succ_eq_add_one, ← hm]; exact Nat.min_le_left _ _
          have := g4 (k + 1) hmk w rfl
          simp [Builtin.copy_, h0, (e2 _ _).1, (e2 _ _).2, run_underlying hu, g3, run_sizeT hn, hm, this, hst]
        · cases h
    · cases h
  · rename_i ep
    rw [ep] at hv
    generalize hvx : a.eval x = vx at hv hex
    cases hv
    split at h
    · rename_i m hel
      obtain ⟨m, new⟩ := m
      obtain ⟨rfl, rfl⟩ := Prod.mk.inj (Option.some.inj h)
      obtain ⟨ys, g1, g2, g3, g4⟩ := elems_sound (P := P) hR hvy hel
      refine good_same hR (x := goInt 0) .int (hex _ _ ?_)
      have := g4 0 (Nat.zero_le _) w rfl
      simp [Builtin.copy_, h0, (e2 _ _).1, (e2 _ _).2, run_underlying hu, g3, run_sizeT hn, this]
    · cases h
  · cases h

theorem sound_clear {c : Call} {st e : TypeId} {z : List AV} {v : AV} {S' : St} (ho : o.op = .call c) (hb : c.callee = .builtin .clear) (hx : c.args.toList = [x]) (h0 : c.argTypes[0]? = some st) (hu : P.underlying st = some (.slice e)) (hz : zeroT P e = some z)
    (hp : cOpd x = some p) (h : aop (.clear z p) fr.ev rid S = some (v, S')) : Good P B w0 ρ S rid a w o v S' := by
  have hv := hF.ev hp
  have hex : ∀ r w', (Builtin.clear_ c.argTypes o.type #[a.eval x]).run P w = .ok r w' → (execOp a.eval o).run P w = .ok (.value r) w' :=
    fun r w' hr => exec_builtin ho hb hx (fun _ => rfl) (by simpa using hr)
  have e2 : ∀ u : Value, (#[u] : Array Value)[0]? = some u := fun _ => rfl
  obtain ⟨zv, hzr, hzl⟩ := zero_sound (P := P) (w := w) (ρ := ρ) hz
  simp only [aop] at h
  split at h
  · rename_i ep
    obtain ⟨rfl, rfl⟩ := Prod.mk.inj (Option.some.inj h)
    rw [ep] at hv
    generalize hvx : a.eval x = vx at hv hex
    cases hv
    refine good_same hR .undef (hex _ _ ?_)
    simp [Builtin.clear_, h0, e2, run_underlying hu]
    rfl
  · rename_i id off len cap ep
    rw [ep] at hv
    generalize hvx : a.eval x = vx at hv hex
    cases hv
    rename_i cc r ad hr hlen had hfit
    split at h
    · obtain ⟨rfl, rfl⟩ := Prod.mk.inj (Option.some.inj h)
      refine good_same hR .undef (hex _ _ ?_)
      simp [Builtin.clear_, h0, e2, run_underlying hu]
      rfl
    · rename_i n
      simp only [Option.map_eq_some_iff, Prod.mk.injEq] at h
      obtain ⟨S1, hS1, rfl, rfl⟩ := h
      have had := had.resolve_left (by omega)
      subst had
      have hVL : VL ρ (List.replicate (n + 1) z).flatten (Builtin.zeroCells zv.cells (n + 1)).toList := by
        have hflat : (Builtin.zeroCells zv.cells (n + 1)).toList = (List.replicate (n + 1) zv.cells.toList).flatten := by
          generalize n + 1 = k
          apply List.ext_getElem?
          intro i
          have hl : ∀ k, (List.replicate k zv.cells.toList).flatten.length = k * zv.cells.size := by
            intro k
            induction k with
            | zero => simp
            | succ k ih => rw [List.replicate_succ, List.flatten_cons, List.length_append, ih, Nat.add_mul]; simp; omega
          have hget : ∀ k i, i < k * zv.cells.size → (List.replicate k zv.cells.toList).flatten[i]? = zv.cells.toList[i % zv.cells.size]? := by
            intro k
            induction k with
            | zero => intro i hi; omega
            | succ k ih =>
              intro i hi
              rw [List.replicate_succ, List.flatten_cons]
              by_cases h : i < zv.cells.size
              · rw [List.getElem?_append_left (by simpa using h), Nat.mod_eq_of_lt h]
              · rw [List.getElem?_append_right (by simpa using Nat.le_of_not_lt h)]
                rw [ih _ (by rw [Nat.add_mul] at hi; simp; omega)]
                congr 1
                simp only [Array.length_toList]
                exact (Nat.mod_eq_sub_mod (Nat.le_of_not_lt h)).symm
          by_cases hi : i < k * zv.cells.size
          · rw [hget k i hi]
            have hpos : 0 < zv.cells.size := by
              rcases Nat.eq_zero_or_pos zv.cells.size with h0 | h0
              · rw [h0] at hi; omega
              · exact h0
            have hm : i % zv.cells.size < zv.cells.size := Nat.mod_lt _ hpos
            simp [Builtin.zeroCells, hi, hm, getElem!_def]
          · rw [List.getElem?_eq_none (by simp [Builtin.zeroCells]; omega), List.getElem?_eq_none (by rw [hl]; omega)]
        rw [hflat]
        generalize n + 1 = k
        induction k with
        | zero => exact .nil
        | succ k ih => rw [List.replicate_succ, List.replicate_succ, List.flatten_cons, List.flatten_cons]; exact VL.app hzl ih
      obtain ⟨w', hst, hstep⟩ := write_sound (P := P) (rid := rid) hR hr hS1 hVL
      refine ⟨ρ, undef, w', hstep, .undef, .inl (hex _ _ ?_)⟩
      simp [Builtin.clear_, h0, e2, run_underlying hu, hzr, hst]
      rfl
  · cases h
end
end Go.Eng
