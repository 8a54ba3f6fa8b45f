/-
  The run of compiled code is the run of the code.
-/
import Derived.Test.YtiemcnndfhbidaaGreatDoorE23
set_option linter.unusedSimpArgs false
set_option linter.unusedVariables false
set_option linter.unusedSectionVars false
namespace Go.Eng
open Go.RowKit (Below)
variable {P : Program} {B : Nat} {w0 w : World} {ρ : Pl} {S : St} {fr : AFr} {a : Act} {rid : Nat}

theorem plainOp_eq {all : Array Oper} {o : Oper} {c : COp} (hc : compOp P all o = some c) : plainOp c = c := by
  unfold compOp at hc
  split at hc
  · obtain rfl := Option.some.inj hc; rfl
  · split at hc
    · obtain rfl := Option.some.inj hc; rfl
    · cases hc
theorem plain_setPre {ms : List Nat} {l : List COp} : (setPre ms l).map plainOp = l.map plainOp := by
  unfold setPre
  rw [List.map_map, show (plainOp ∘ fun (x : COp × Nat) => match x with | (a, i) => { a with early := earlyOf l a.ci, pre := isAlloc a.ci && l.zipIdx.any fun (b, j) => isCall b.ci && !Nat.testBit (ms.getD j 0) i && !Nat.testBit (ms.getD i 0) j }) = plainOp ∘ Prod.fst from rfl, ← List.map_map, List.zipIdx_map_fst]
theorem plain_comp {all : Array Oper} : ∀ {l : List Oper} {cs : List COp}, compOps P all l = some cs → cs.map plainOp = cs
  | [], cs, h => by
    simp only [compOps, Option.some.injEq] at h
    subst h; rfl
  | o :: l, cs, h => by
    simp only [compOps] at h
    split at h
    · rename_i c cs h1 h2
      obtain rfl := Option.some.inj h
      rw [List.map_cons, plainOp_eq h1, plain_comp h2]
    · cases h
theorem compOps_drop {all : Array Oper} : ∀ (m : Nat) {l : List Oper} {cs : List COp}, compOps P all l = some cs → compOps P all (l.drop m) = some (cs.drop m)
  | 0, l, cs, h => h
  | m + 1, [], cs, h => by
    simp only [compOps, Option.some.injEq] at h
    subst h; rfl
  | m + 1, o :: l, cs, h => by
    simp only [compOps] at h
    split at h
    · rename_i c cs h1 h2
      obtain rfl := Option.some.inj h
      exact compOps_drop m h2
    · cases h
theorem okTail_spec {ms : List Nat} {m n : Nat} (h : okTail ms m n = true) : m ≤ n ∧ ∀ j, m ≤ j → j < n → ∀ i, i < j → Nat.testBit (ms.getD j 0) i = true := by
  unfold okTail at h
  simp only [Bool.and_eq_true, List.all_eq_true] at h
  have hm := Nat.le_of_ble_eq_true h.1
  refine ⟨hm, fun j h1 h2 i hi => ?_⟩
  have := Nat.eq_of_beq_eq_true (h.2 j (List.mem_range'_1.2 ⟨h1, by omega⟩))
  rw [this, Nat.testBit_two_pow_sub_one]
  simpa using hi
theorem draw_front {r : Option Nat} {E : Env} {run : Runner} {id : Nat} {ops : Array Oper} {l : List COp} {m : Nat} {ps cs : List (Nat × Nat)} {fr' : AFr} {S' : St} {tr : List TrE} {Q : Exit → Act → World → Prop} (hE : E.Ok P) (hrun : RunOk P B w0 run) (hc : compOps P ops ops.toList = some l) {ms : List Nat}
    (hok : okDraw (ops.toList.map fun o => edgesOf o.after.toList) (setPre ms l) ps cs = true) (htl : okTail (masks (ops.toList.map fun o => edgesOf o.after.toList) []) m ops.size = true)
    (h : runDraw E run ((setPre ms l).take m) S.next fr (preAll fr.ev (setPre ms l) S.next { h := S.h, next := S.next + ops.size }) [] = some (fr', S', tr)) (hps : lookP tr ps = true) (hcs : lookC tr cs = true)
    (hF : FR ρ fr a) (hR : R B w0 ρ S w) (hP : CodeOk P ρ)
    (hQ : ∀ ρ' a' w', Post B w0 ρ S (fun q => S.next ≤ q ∧ q < S.next + ops.size) ρ' S' w' → S.next + ops.size ≤ S'.next → FR ρ' fr' a' → CodeOk P ρ' → fr'.rd = fr.rd → (∀ i, m ≤ i → i < ops.size → Fresh ρ' S' (S.next + i)) → wpOpsIn (FF r) 0 P ops Q (List.range' m (ops.size - m)) a' w') :
    (Code.region id ops true).wpIn (FF r) 0 P Q a w := by
  apply wpIn_region_any hE.mixed
  obtain ⟨hm, htl⟩ := okTail_spec htl
  have hlen0 : (setPre ms l).length = ops.size := by rw [setPre_length, compOps_length hc, Array.length_toList]
  have hlen : ((setPre ms l).take m).length = m := by rw [List.length_take, hlen0]; omega
  have hR1 : R B w0 ρ { h := S.h, next := S.next + ops.size } w := hR.room _
  obtain ⟨g1, g2, g3⟩ := preAll_sound fr.ev (setPre ms l) S.next _ hR1 (fun q h1 h2 => hR.newFresh _ h1 (by rw [hlen0] at h2; exact h2))
  obtain ⟨F, SS, vv, e1, e2, e3, e4, -, e5⟩ := draw_trace h
  have hD0 := okDraw_spec hok
  have hD := hD0.take m
  have hlast : ∀ (j : Nat) (l' : List Nat), (ops.toList.map fun o => edgesOf o.after.toList)[j]? = some l' → m ≤ j → ∀ i, i < j → Nat.testBit ((masks (ops.toList.map fun o => edgesOf o.after.toList) []).getD j 0) i = true :=
    fun j l' hj h1 i hi => htl j h1 (by have := (List.getElem?_eq_some_iff.1 hj).1; simpa using this) i hi
  have hedges : ∀ (i : Nat) (o : Oper), ops[i]? = some o → (ops.toList.map fun o => edgesOf o.after.toList)[i]? = some (edgesOf o.after.toList) := fun i o ho => by
    rw [List.getElem?_map, Array.getElem?_toList, ho]
    rfl
  simp only [List.length_nil, Nat.zero_add] at e5
  have hdr : Drawn P E run ops (ops.toList.map fun o => edgesOf o.after.toList) ((setPre ms l).take m) ps cs S.next fr F SS vv := by
    refine ⟨hD, by omega, fun j l' hj h1 => hlast j l' hj (by rw [hlen] at h1; exact h1), hedges, fun i o ho hi => ?_, fun i c hc' => (e5 i c hc').2.1, e1, fun i c hc' => (e5 i c hc').2.2, fun i j x y hx hy hij hb => ?_⟩
    · obtain ⟨c0, h1, h2⟩ := compOps_get hc i o (by rw [Array.getElem?_toList]; exact ho)
      have hci : ((setPre ms l).take m)[i]? = some ((setPre ms l).take m)[i] := List.getElem?_eq_getElem hi
      have hci' := hci
      rw [List.getElem?_take, if_pos (by rw [hlen] at hi; exact hi)] at hci'
      obtain ⟨c1, k1, k2, k3, k4⟩ := setPre_get hci'
      obtain rfl := Option.some.inj (h1.symm.trans k1)
      exact ⟨_, c0, hci, h2, k2, k3, k4⟩
    · exact item_indep hps hcs (fun i c hc' => (e5 i c hc').1) hx hy hD.pre (hD.pair i j x y hx hy hij) hb
  have hw : R B w0 ρ (SS 0) { w with drawn := w.drawn + 1 } := by
    rw [e2]
    exact g1.drew
  have hrd : fr'.rd = fr.rd := by
    have := (hdr.frAt _ (Nat.le_refl _)).rd
    rwa [e3] at this
  have hgo := any_sound (r := r) (Q := Q) (ρ0 := ρ) (S0 := SS 0) hE hrun hdr (fun listed ρ' a' w' hs hL hp hF' hP' hf => by
      rw [e4] at hp hf
      rw [e3] at hF'
      rw [hlen] at hL hf ⊢
      refine tail_any hD0 hedges hlast (ops.size - m) m listed a' w' (by omega) (Nat.le_refl _) hs hL ?_
      have hnx : S.next + ops.size ≤ S'.next := by
        have := hp.next
        rw [e2, g2] at this
        exact this
      refine hQ ρ' a' w' ⟨hp.sub, hp.r, by omega, fun q hq f => hp.fr q hq ?_⟩ hnx hF' hP' hrd hf
      rw [e2]
      exact g3 q (f.room _))
    m (Array.replicate ops.size false) (List.range' 0 m) fr ρ (SS 0) a { w with drawn := w.drawn + 1 }
    (by simp) (by simp) (fun i hi => by rw [hlen]; simp [hi]; omega) (fun i hi => by rw [hlen]; simpa using hi) List.pairwise_lt_range'
    (fun d hd1 hd2 => absurd (by rw [hlen] at hd1; simpa using hd1) hd2)
    (by have := hdr.run m 0 (by rw [hlen]; omega); exact this)
    ⟨rfl, rfl, rfl, fun d c t hc' hd' => absurd (by have := (List.getElem?_eq_some_iff.1 hc').1; rw [hlen] at this; simpa using this) hd', fun _ _ => rfl⟩
    hF hP (.refl hw) (fun i hi his => by
      rw [e2]
      exact g3 _ (hR.newFresh _ (Nat.le_add_right _ _) (by omega)))
  rw [hlen, show m + (ops.size - m) = ops.size by omega] at hgo
  exact hgo
theorem draw_sound {r : Option Nat} {E : Env} {run : Runner} {id : Nat} {ops : Array Oper} {l : List COp} {ms : List Nat} {ps cs : List (Nat × Nat)} {fr' : AFr} {S' : St} {tr : List TrE} (hE : E.Ok P) (hrun : RunOk P B w0 run) (hc : compOps P ops ops.toList = some l)
    (hok : okDraw (ops.toList.map fun o => edgesOf o.after.toList) (setPre ms l) ps cs = true)
    (h : runDraw E run (setPre ms l) S.next fr (preAll fr.ev (setPre ms l) S.next { h := S.h, next := S.next + ops.size }) [] = some (fr', S', tr)) (hps : lookP tr ps = true) (hcs : lookC tr cs = true)
    (hF : FR ρ fr a) (hR : R B w0 ρ S w) (hP : CodeOk P ρ) : (Code.region id ops true).wpIn (FF r) 0 P (After B w0 ρ S fr.rd .normal fr' S') a w := by
  have hlen0 : (setPre ms l).length = ops.size := by rw [setPre_length, compOps_length hc, Array.length_toList]
  refine draw_front (m := ops.size) hE hrun hc hok (by simp [okTail]) (by rw [← hlen0, List.take_length, hlen0]; exact h) hps hcs hF hR hP (fun ρ' a' w' hp hnx hF' hP' hrd hf => ?_)
  rw [Nat.sub_self]
  refine ⟨rfl, hrd, ρ', ⟨hp.sub, hp.r, by omega, fun q _ f => hp.fr q (fun hq => ?_) f⟩, hF'⟩
  have := f.lt
  omega

theorem loop_sound {r : Option Nat} {rd : Bool} {E : Env} {c : Code} {cc : CC} {ρ0 : Pl} {S0 : St} {e : AE} {fr' : AFr} {S' : St} (hc : compC P c = some cc) : ∀ (f : Nat), (∀ g, g < f → RunOk P B w0 (exec E g)) → ∀ (fr : AFr) (S : St) (ρ : Pl) (a : Act) (w : World),
    exec E f (.loop cc) fr S = some (e, fr', S') → FR ρ fr a → Post B w0 ρ0 S0 (fun _ => False) ρ S w → CodeOk P ρ → (r = none ∨ fr.rd = true) → fr.rd = rd → Code.roundsIn (FF r) 0 P c (After B w0 ρ0 S0 rd e fr' S') f a w
  | 0, _, fr, S, ρ, a, w, h, _, _, _, _, _ => by cases h
  | f + 1, hok, fr, S, ρ, a, w, h, hF, hp, hP, hr, hrd => by
    have h : body E (exec E f) (.loop cc) fr S = some (e, fr', S') := h
    simp only [body] at h
    have hrun := hok f (Nat.lt_succ_self f)
    cases hx : exec E f cc fr S with
    | none => rw [hx] at h; cases h
    | some q =>
      obtain ⟨e1, fr1, S1⟩ := q
      rw [hx] at h
      have hw := hrun r c cc fr S e1 fr1 S1 ρ a w hc hx hF hp.r hP hr
      show c.wpIn (FF r) 0 P (Exit.then (Code.roundsIn (FF r) 0 P c (After B w0 ρ0 S0 rd e fr' S') f) (After B w0 ρ0 S0 rd e fr' S')) a w
      refine wpIn_mono hw ?_
      rintro x a' w' ⟨rfl, hrd1, ρ', hp', hF'⟩
      have hpp := hp.more hp'
      cases e1 with
      | normal => exact loop_sound hc f (fun g hg => hok g (Nat.lt_succ_of_lt hg)) fr1 S1 ρ' a' w' h hF' hpp (hP.sub hp'.sub) (by rw [hrd1]; exact hr) (hrd1.trans hrd)
      | ret =>
        obtain ⟨rfl, hh⟩ := Prod.mk.inj (Option.some.inj h)
        obtain ⟨rfl, rfl⟩ := Prod.mk.inj hh
        exact ⟨rfl, hrd1.trans hrd, ρ', hpp, hF'⟩
      | exit id =>
        obtain ⟨rfl, hh⟩ := Prod.mk.inj (Option.some.inj h)
        obtain ⟨rfl, rfl⟩ := Prod.mk.inj hh
        exact ⟨rfl, hrd1.trans hrd, ρ', hpp, hF'⟩

theorem evalConst (a : Act) (v : Value) : a.eval (.const v) = v := rfl
/-- A range over a function. -/
theorem rfn_new {ps : Array Tmp} {ca cb : CC} {assign body : Code} {fn : FuncId} (hF : FR ρ fr a) (hR : R B w0 ρ S w) (hca : ρ.ok assign ca) (hcb : ρ.ok body cb) :
    ∃ ρ' w', w' = (w.alloc (.deferred (some []))).alloc (.loop { state := .ready, pending := none, fn := fn, tmps := a.tmps, params := ps, assign := assign, body := body, defers := w.heap.size }) ∧
      Post B w0 ρ S (fun _ => False) ρ' (rfnSt fr S ps.toList ca cb) w' ∧ (∃ r, ρ' S.next = some r ∧ r.b = w.heap.size) ∧ (∃ r, ρ' (S.next + 1) = some r ∧ r.b = w.heap.size + 1) := by
  have hR1 := hR.room 2
  have f1 : Fresh ρ { h := S.h, next := S.next + 2 } S.next := hR.newFresh 2 (Nat.le_refl _) (by omega)
  have f2 : Fresh ρ { h := S.h, next := S.next + 2 } (S.next + 1) := hR.newFresh 2 (by omega) (by omega)
  have s1 := step_new (o := .deferred (some [])) (tot := 0) hR1 f1 (k := .obj (.deferred (some []))) trivial (by show (w.alloc _).heap[w.heap.size]? = _; rw [alloc_get, if_pos rfl])
  have f2' := s1.fr (S.next + 1) (by omega) f2
  have hFn := hF.mono s1.sub
  have s2 := step_new (o := .loop { state := .ready, pending := none, fn := fn, tmps := a.tmps, params := ps, assign := assign, body := body, defers := w.heap.size }) (tot := 0) s1.r f2' (k := .loop false fr.n fr.m ps.toList ca cb) trivial
    ⟨fn, a.tmps, assign, body, w.heap.size, by rw [alloc_get, if_pos rfl], hF.size, fun t => (hFn.mono (sub_upd _ f2'.un)).at_ t, hca, hcb⟩
  refine ⟨_, _, rfl, ⟨s1.sub.trans s2.sub, s2.r, by show S.next ≤ S.next + 2; omega, fun q _ hq => s2.fr q (by have := hq.lt; omega) (s1.fr q (by have := hq.lt; omega) (hq.room 2))⟩, ⟨_, s2.sub _ _ (upd_self _ _ _), rfl⟩, ⟨_, upd_self _ _ _, by simp⟩⟩

theorem exec_sound {E : Env} (hE : E.Ok P) : ∀ f, RunOk P B w0 (exec E f) := by
  intro f
  induction f using Nat.strongRecOn with
  | _ f ihs =>
  cases f with
  | zero => intro r c cc fr S e fr' S' ρ a w hc h; cases h
  | succ f =>
    have ih := ihs f (Nat.lt_succ_self f)
    intro r c cc fr S e fr' S' ρ a w hc h hF hR hP hr
    have hfull := h
    have h : body E (exec E f) cc fr S = some (e, fr', S') := h
    cases c
    case skip =>
      simp only [compC, Option.some.injEq] at hc
      subst hc
      simp only [body, Option.some.injEq, Prod.mk.injEq] at h
      obtain ⟨rfl, rfl, rfl⟩ := h
      exact wpIn_skip ⟨rfl, rfl, ρ, .refl hR, hF⟩
    case region id ops draw =>
      cases draw with
      | false =>
        simp only [compC, Option.map_eq_some_iff] at hc
        obtain ⟨l, hl, rfl⟩ := hc
        simp only [body] at h
        split at h
        · rename_i fr1 S1 hr1
          simp only [Option.some.injEq, Prod.mk.injEq] at h
          obtain ⟨rfl, rfl, rfl⟩ := h
          exact region_sound hE ih hl hr1 hF hR hP
        · cases h
      | true =>
        simp only [compC] at hc
        split at hc
        · rename_i l hl
          split at hc
          · rename_i hok _
            obtain rfl := Option.some.inj hc
            simp only [body] at h
            split at h
            · rename_i fr1 S1 tr hr1
              split at h
              · rename_i hlk
                simp only [Bool.and_eq_true] at hlk
                simp only [Option.some.injEq, Prod.mk.injEq] at h
                obtain ⟨rfl, rfl, rfl⟩ := h
                exact draw_sound hE ih hl hok hr1 hlk.1 hlk.2 hF hR hP
              · cases h
            · cases h
          · cases hc
        · cases hc
    case seq x y =>
      simp only [compC] at hc
      split at hc
      · rename_i cx cy hx hy
        obtain rfl := Option.some.inj hc
        simp only [body] at h
        cases hx1 : exec E f cx fr S with
        | none => rw [hx1] at h; cases h
        | some q =>
          obtain ⟨e1, fr1, S1⟩ := q
          rw [hx1] at h
          refine wpIn_seq (wpIn_mono (ih r x cx fr S e1 fr1 S1 ρ a w hx hx1 hF hR hP hr) ?_)
          rintro z a' w' ⟨rfl, hd', ρ', hp', hF'⟩
          cases e1 with
          | normal =>
            refine wpIn_mono (ih r y cy fr1 S1 e fr' S' ρ' a' w' hy h hF' hp'.r (hP.sub hp'.sub) (by rw [hd']; exact hr)) ?_
            rintro z a2 w2 ⟨rfl, hd2, ρ2, hp2, hF2⟩
            exact ⟨rfl, hd2.trans hd', ρ2, hp'.more hp2, hF2⟩
          | ret =>
            obtain ⟨rfl, hh⟩ := Prod.mk.inj (Option.some.inj h)
            obtain ⟨rfl, rfl⟩ := Prod.mk.inj hh
            exact ⟨rfl, hd', ρ', hp', hF'⟩
          | exit id =>
            obtain ⟨rfl, hh⟩ := Prod.mk.inj (Option.some.inj h)
            obtain ⟨rfl, rfl⟩ := Prod.mk.inj hh
            exact ⟨rfl, hd', ρ', hp', hF'⟩
      · cases hc
    case cond t x y =>
      simp only [compC] at hc
      split at hc
      · rename_i ct cx cy ht hx hy
        obtain rfl := Option.some.inj hc
        have hv := hF.ev ht
        simp only [body] at h
        split at h
        · rename_i e0
          rw [e0] at hv
          generalize hvt : a.eval t = vt at hv
          cases hv
          exact wpIn_cond_true hvt (ih r x cx fr S e fr' S' ρ a w hx h hF hR hP hr)
        · rename_i e0
          rw [e0] at hv
          generalize hvt : a.eval t = vt at hv
          cases hv
          exact wpIn_cond_false hvt (ih r y cy fr S e fr' S' ρ a w hy h hF hR hP hr)
        · cases h
      · cases hc
    case block id x =>
      simp only [compC, Option.map_eq_some_iff] at hc
      obtain ⟨cx, hx, rfl⟩ := hc
      simp only [body] at h
      cases hx1 : exec E f cx fr S with
      | none => rw [hx1] at h; cases h
      | some q =>
        obtain ⟨e1, fr1, S1⟩ := q
        rw [hx1] at h
        refine wpIn_block (wpIn_mono (ih r x cx fr S e1 fr1 S1 ρ a w hx hx1 hF hR hP hr) ?_)
        rintro z a' w' ⟨rfl, hd', ρ', hp', hF'⟩
        cases e1 with
        | normal =>
          obtain ⟨rfl, hh⟩ := Prod.mk.inj (Option.some.inj h)
          obtain ⟨rfl, rfl⟩ := Prod.mk.inj hh
          exact ⟨rfl, hd', ρ', hp', hF'⟩
        | ret =>
          obtain ⟨rfl, hh⟩ := Prod.mk.inj (Option.some.inj h)
          obtain ⟨rfl, rfl⟩ := Prod.mk.inj hh
          exact ⟨rfl, hd', ρ', hp', hF'⟩
        | exit j =>
          have h2 : (match Nat.beq j id with | true => some (AE.normal, fr1, S1) | false => some (AE.exit j, fr1, S1)) = some (e, fr', S') := h
          show Exit.inBlock id (After B w0 ρ S fr.rd e fr' S') (.exit j) a' w'
          unfold Exit.inBlock
          cases hj : Nat.beq j id with
          | true =>
            rw [hj] at h2
            have hji := Nat.eq_of_beq_eq_true hj
            obtain ⟨rfl, hh⟩ := Prod.mk.inj (Option.some.inj h2)
            obtain ⟨rfl, rfl⟩ := Prod.mk.inj hh
            simp only [hji, if_true]
            exact ⟨rfl, hd', ρ', hp', hF'⟩
          | false =>
            rw [hj] at h2
            have hne : j ≠ id := by rintro rfl; simp at hj
            obtain ⟨rfl, hh⟩ := Prod.mk.inj (Option.some.inj h2)
            obtain ⟨rfl, rfl⟩ := Prod.mk.inj hh
            simp only [hne, if_false]
            exact ⟨rfl, hd', ρ', hp', hF'⟩
    case loop x =>
      simp only [compC, Option.map_eq_some_iff] at hc
      obtain ⟨cx, hx, rfl⟩ := hc
      exact wpIn_loop_rounds (f + 1) (loop_sound hx (f + 1) ihs fr S ρ a w hfull hF (.refl hR) hP hr rfl)
    case rangeFunc g ps assign body' =>
      simp only [compC] at hc
      split at hc
      · rename_i x ca cb hx hca hcb
        obtain rfl := Option.some.inj hc
        have hv := hF.ev hx
        simp only [body] at h
        split at h
        case h_2 => cases h
        rename_i q first caps hrd ev
        split at h
        · cases h
        · rename_i hmz
          split at h
          case h_2 => cases h
          rename_i v2 S2 hg
          split at h
          case h_2 => cases h
          rename_i n2 m2 ps2 a2 b2 hl2
          simp only [Option.some.injEq, Prod.mk.injEq] at h
          obtain ⟨rfl, rfl, rfl⟩ := h
          have hr0 : r = none := by
            rcases hr with hr | hr
            · exact hr
            · rw [hrd] at hr; cases hr
          subst hr0
          rw [ev] at hv
          generalize hvg : a.eval g = vg at hv
          cases hv
          rename_i us ys hfs hcs
          refine wpIn_rangeFunc (fun fn _ => ?_)
          obtain ⟨ρ1, w1, hw1, hp1, ⟨rD, hD, hDb⟩, ⟨rL, hL, hLb⟩⟩ := rfn_new (fn := fn) (ps := ps) hF hR (by rw [hP]; exact hca) (by rw [hP]; exact hcb)
          have hy : V ρ1 (.yld (S.next + 1)) (.func (.yield (w.heap.size + 1)) #[] #[]) := by
            rw [← hLb]; exact .yld hL
          obtain ⟨h1, h2⟩ := gcall_sound hE ih hg (VL.app (VL.app (hfs.mono hp1.sub) (.one hy)) (hcs.mono hp1.sub)) hp1.r (hP.sub hp1.sub)
          rw [← args_toArray] at h1 h2
          refine ⟨w.heap.size + 1, [{ target := .collected w.heap.size, args := #[] }], w1, { target := .fn (.func q) ys.toArray, args := us.toArray ++ #[.func (.yield (w.heap.size + 1)) #[] #[]] }, w1, q, (us.toArray ++ #[.func (.yield (w.heap.size + 1)) #[] #[]]) ++ ys.toArray, w1, ?_, ?_, fun _ _ => trivial, ?_, fun h => (by simp at h), ?_⟩
          · rw [hw1]; exact run_enterLoop_outer _ _ _ _ _
          · simp [resolve, rangeCall, hvg, Deferred.ofValue, evalConst]
          · simp only [invoke]
            exact h1
          · refine h2.mono ?_
            rintro en w2 ⟨y, rfl, ρ2, hp2, hy2⟩
            have hL2 := hp2.sub _ _ hL
            obtain ⟨fn2, tmps2, as2, bd2, D2, hh2, hsz2, hfv2, hca2, hcb2⟩ := hp2.r.blk _ _ rL hl2 hL2
            rw [hLb] at hh2
            refine ⟨_, _, run_endLoop hh2 (by simp), ?_⟩
            rw [putObj_wset, ← hLb]
            have hpo := post_obj (ex := fun _ => False) (k' := .gone) (o := .loop { state := .exhausted, pending := none, fn := fn2, tmps := tmps2, params := ps2.toArray, assign := as2, body := bd2, defers := D2 }) hp2.r hl2 (by simp) rfl hL2 (by simp) trivial
            have hsub := hp1.sub.trans (hp2.sub.trans hpo.sub)
            refine ⟨rfl, rfl, ρ2, (hp1.more hp2).more hpo, ⟨hF.size, fun t => (hF.at_ t).mono hsub, ?_⟩⟩
            have := DL.cons (hp2.sub _ _ hD) (hF.dl.mono hsub)
            rw [hDb] at this
            exact this
      · cases hc
    case exit id =>
      simp only [compC, Option.some.injEq] at hc
      subst hc
      simp only [body, Option.some.injEq, Prod.mk.injEq] at h
      obtain ⟨rfl, rfl, rfl⟩ := h
      exact wpIn_exit ⟨rfl, rfl, ρ, .refl hR, hF⟩
    case ret =>
      simp only [compC, Option.some.injEq] at hc
      subst hc
      simp only [body, Option.some.injEq, Prod.mk.injEq] at h
      obtain ⟨rfl, rfl, rfl⟩ := h
      exact wpIn_ret ⟨rfl, rfl, ρ, .refl hR, hF⟩
    all_goals cases hc

end Go.Eng
