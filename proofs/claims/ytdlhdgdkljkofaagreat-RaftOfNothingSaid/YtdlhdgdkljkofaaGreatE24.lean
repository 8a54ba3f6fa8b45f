/-
  The run of compiled code is the run of the code.
-/
import Derived.Test.YtdlhdgdkljkofaaGreatE23
set_option linter.unusedSimpArgs false
set_option linter.unusedVariables false
set_option linter.unusedSectionVars false
namespace Go.Eng
open Go.RowKit (Below)
variable {P : Program} {B : Nat} {w0 w : World} {ρ : Pl} {S : St} {fr : AFr} {a : Act} {rid : Nat}

theorem draw_sound {E : Env} {run : Runner} {id : Nat} {ops : Array Oper} {l : List COp} {ms : List Nat} {ps cs : List (Nat × Nat)} {fr' : AFr} {S' : St} {tr : List TrE} (hE : E.Ok P) (hrun : RunOk P B w0 run) (hc : compOps P ops ops.toList = some l)
    (hok : okDraw (ops.toList.map fun o => edgesOf o.after.toList) (setPre ms l) ps cs = true)
    (h : runDraw E run (setPre ms l) S.next fr (preAll (setPre ms l) S.next { h := S.h, next := S.next + ops.size }) [] = some (fr', S', tr)) (hps : lookP tr ps = true) (hcs : lookC tr cs = true)
    (hF : FR ρ fr a) (hR : R B w0 ρ S w) (hd : a.defers = []) : (Code.region id ops true).wp P (After B w0 ρ S .normal fr' S') a w := by
  apply wp_region_any hE.mixed
  have hlen : (setPre ms l).length = ops.size := by rw [setPre_length, compOps_length hc, Array.length_toList]
  have hR1 : R B w0 ρ { h := S.h, next := S.next + ops.size } w := hR.room _
  obtain ⟨g1, g2, g3⟩ := preAll_sound (setPre ms l) S.next _ hR1 (fun q h1 h2 => hR.newFresh _ h1 (by rw [hlen] at h2; exact h2))
  obtain ⟨F, SS, vv, e1, e2, e3, e4, -, e5⟩ := draw_trace h
  have hD := okDraw_spec hok
  simp only [List.length_nil, Nat.zero_add] at e5
  have hdr : Drawn P E run ops (ops.toList.map fun o => edgesOf o.after.toList) (setPre ms l) ps cs S.next fr F SS vv := by
    refine ⟨hD, hlen, fun i o ho => ?_, fun i o ho => ?_, fun i c hc' => (e5 i c hc').2.1, e1, fun i c hc' => (e5 i c hc').2.2, fun i j x y hx hy hij hb => ?_⟩
    · rw [List.getElem?_map, Array.getElem?_toList, ho]
      rfl
    · obtain ⟨c0, h1, h2⟩ := compOps_get hc i o (by rw [Array.getElem?_toList]; exact ho)
      have hlt : i < (setPre ms l).length := by rw [hlen]; exact (Array.getElem?_eq_some_iff.1 ho).1
      have hci : (setPre ms l)[i]? = some (setPre ms l)[i] := List.getElem?_eq_getElem hlt
      obtain ⟨c1, k1, k2, k3, k4⟩ := setPre_get hci
      obtain rfl := Option.some.inj (h1.symm.trans k1)
      exact ⟨_, c0, hci, h2, k2, k3, k4⟩
    · exact item_indep hps hcs (fun i c hc' => (e5 i c hc').1) hx hy hD.pre (hD.pair i j x y hx hy hij) hb
  have hw : R B w0 ρ (SS 0) { w with drawn := w.drawn + 1 } := by
    rw [e2]
    exact g1.drew
  have hgo := any_sound (Q := After B w0 ρ S .normal fr' S') (ρ0 := ρ) (S0 := SS 0) hE hrun hdr (fun ρ' a' w' hp hF' hd' => by
      rw [e4] at hp
      rw [e3] at hF'
      refine ⟨rfl, hd', ρ', ⟨hp.sub, hp.r, ?_, fun q _ f => hp.fr q (fun hq => ?_) ?_⟩, hF'⟩
      · have := hp.next
        rw [e2, g2] at this
        exact Nat.le_trans (Nat.le_add_right _ _) this
      · have := f.lt
        omega
      · rw [e2]
        exact g3 q (f.room _))
    ops.size (Array.replicate ops.size false) (List.range' 0 ops.size) fr ρ (SS 0) a { w with drawn := w.drawn + 1 }
    (by simp) (by simp) (fun i hi => by simp [hi]) (fun i hi => by simpa using hi) List.pairwise_lt_range'
    (fun d hd1 hd2 => absurd (by rw [hlen] at hd1; simpa using hd1) hd2)
    (by have := hdr.run ops.size 0 (by rw [hlen]; omega); exact this)
    ⟨rfl, fun d c t hc' hd' => absurd (by have := (List.getElem?_eq_some_iff.1 hc').1; rw [hlen] at this; simpa using this) hd', fun _ _ => rfl⟩
    hF hd (.refl hw) (fun i hi => by
      rw [e2]
      have : i < ops.size := by simpa using hi
      exact g3 _ (hR.newFresh _ (Nat.le_add_right _ _) (by omega)))
  exact hgo

theorem loop_sound {E : Env} {c : Code} {cc : CC} {ρ0 : Pl} {S0 : St} {e : AE} {fr' : AFr} {S' : St} (hc : compC P c = some cc) : ∀ (f : Nat), (∀ g, g < f → RunOk P B w0 (exec E g)) → ∀ (fr : AFr) (S : St) (ρ : Pl) (a : Act) (w : World),
    exec E f (.loop cc) fr S = some (e, fr', S') → FR ρ fr a → Post B w0 ρ0 S0 (fun _ => False) ρ S w → a.defers = [] → Code.rounds P c (After B w0 ρ0 S0 e fr' S') f a w
  | 0, _, fr, S, ρ, a, w, h, _, _, _ => by cases h
  | f + 1, hok, fr, S, ρ, a, w, h, hF, hp, hd => by
    have h : body E (exec E f) (.loop cc) fr S = some (e, fr', S') := h
    simp only [body] at h
    have hrun := hok f (Nat.lt_succ_self f)
    cases hx : exec E f cc fr S with
    | none => rw [hx] at h; cases h
    | some q =>
      obtain ⟨e1, fr1, S1⟩ := q
      rw [hx] at h
      have hw := hrun c cc fr S e1 fr1 S1 ρ a w hc hx hF hp.r hd
      show c.wp P (Exit.then (Code.rounds P c (After B w0 ρ0 S0 e fr' S') f) (After B w0 ρ0 S0 e fr' S')) a w
      refine wp_mono hw ?_
      rintro x a' w' ⟨rfl, hd', ρ', hp', hF'⟩
      have hpp := hp.trans hp' (ex'' := fun _ => False) (fun q hq _ => hq) (fun q hq _ => hq)
      cases e1 with
      | normal => exact loop_sound hc f (fun g hg => hok g (Nat.lt_succ_of_lt hg)) fr1 S1 ρ' a' w' h hF' hpp hd'
      | ret =>
        obtain ⟨rfl, hh⟩ := Prod.mk.inj (Option.some.inj h)
        obtain ⟨rfl, rfl⟩ := Prod.mk.inj hh
        exact ⟨rfl, hd', ρ', hpp, hF'⟩
      | exit id =>
        obtain ⟨rfl, hh⟩ := Prod.mk.inj (Option.some.inj h)
        obtain ⟨rfl, rfl⟩ := Prod.mk.inj hh
        exact ⟨rfl, hd', ρ', hpp, hF'⟩

theorem exec_sound {E : Env} (hE : E.Ok P) : ∀ f, RunOk P B w0 (exec E f) := by
  intro f
  induction f using Nat.strongRecOn with
  | _ f ihs =>
  cases f with
  | zero => intro c cc fr S e fr' S' ρ a w hc h; cases h
  | succ f =>
    have ih := ihs f (Nat.lt_succ_self f)
    intro c cc fr S e fr' S' ρ a w hc h hF hR hd
    have hfull := h
    have h : body E (exec E f) cc fr S = some (e, fr', S') := h
    cases c
    case skip =>
      simp only [compC, Option.some.injEq] at hc
      subst hc
      simp only [body, Option.some.injEq, Prod.mk.injEq] at h
      obtain ⟨rfl, rfl, rfl⟩ := h
      exact wp_skip ⟨rfl, hd, ρ, .refl hR, hF⟩
    case region id ops draw =>
      cases draw with
      | false =>
        simp only [compC, Option.map_eq_some_iff] at hc
        obtain ⟨l, hl, rfl⟩ := hc
        simp only [body] at h
        split at h
        · rename_i fr1 S1 hr
          simp only [Option.some.injEq, Prod.mk.injEq] at h
          obtain ⟨rfl, rfl, rfl⟩ := h
          exact region_sound hE ih hl hr hF hR hd
        · cases h
      | true =>
        simp only [compC] at hc
        split at hc
        · rename_i l hl
          split at hc
          · rename_i hok
            obtain rfl := Option.some.inj hc
            simp only [body] at h
            split at h
            · rename_i fr1 S1 tr hr
              split at h
              · rename_i hlk
                simp only [Bool.and_eq_true] at hlk
                simp only [Option.some.injEq, Prod.mk.injEq] at h
                obtain ⟨rfl, rfl, rfl⟩ := h
                exact draw_sound hE ih hl hok hr hlk.1 hlk.2 hF hR hd
              · cases h
            · cases h
          · cases hc
        · cases hc
    case seq x y =>
      simp only [compC] at hc
      split at hc
      · rename_i cx cy hx hy
        obtain rfl := Option.some.inj hc
        simp only [body] at h
        cases hx1 : exec E f cx fr S with
        | none => rw [hx1] at h; cases h
        | some q =>
          obtain ⟨e1, fr1, S1⟩ := q
          rw [hx1] at h
          refine wp_seq (wp_mono (ih x cx fr S e1 fr1 S1 ρ a w hx hx1 hF hR hd) ?_)
          rintro z a' w' ⟨rfl, hd', ρ', hp', hF'⟩
          cases e1 with
          | normal =>
            refine wp_mono (ih y cy fr1 S1 e fr' S' ρ' a' w' hy h hF' hp'.r hd') ?_
            rintro z a2 w2 ⟨rfl, hd2, ρ2, hp2, hF2⟩
            exact ⟨rfl, hd2, ρ2, hp'.trans hp2 (fun q hq _ => hq) (fun q hq _ => hq), hF2⟩
          | ret =>
            obtain ⟨rfl, hh⟩ := Prod.mk.inj (Option.some.inj h)
            obtain ⟨rfl, rfl⟩ := Prod.mk.inj hh
            exact ⟨rfl, hd', ρ', hp', hF'⟩
          | exit id =>
            obtain ⟨rfl, hh⟩ := Prod.mk.inj (Option.some.inj h)
            obtain ⟨rfl, rfl⟩ := Prod.mk.inj hh
            exact ⟨rfl, hd', ρ', hp', hF'⟩
      · cases hc
    case cond t x y =>
      simp only [compC] at hc
      split at hc
      · rename_i ct cx cy ht hx hy
        obtain rfl := Option.some.inj hc
        have hv := hF.ev ht
        simp only [body] at h
        split at h
        · rename_i e0
          rw [e0] at hv
          generalize hvt : a.eval t = vt at hv
          cases hv
          exact wp_cond_true hvt (ih x cx fr S e fr' S' ρ a w hx h hF hR hd)
        · rename_i e0
          rw [e0] at hv
          generalize hvt : a.eval t = vt at hv
          cases hv
          exact wp_cond_false hvt (ih y cy fr S e fr' S' ρ a w hy h hF hR hd)
        · cases h
      · cases hc
    case block id x =>
      simp only [compC, Option.map_eq_some_iff] at hc
      obtain ⟨cx, hx, rfl⟩ := hc
      simp only [body] at h
      cases hx1 : exec E f cx fr S with
      | none => rw [hx1] at h; cases h
      | some q =>
        obtain ⟨e1, fr1, S1⟩ := q
        rw [hx1] at h
        refine wp_block (wp_mono (ih x cx fr S e1 fr1 S1 ρ a w hx hx1 hF hR hd) ?_)
        rintro z a' w' ⟨rfl, hd', ρ', hp', hF'⟩
        cases e1 with
        | normal =>
          obtain ⟨rfl, hh⟩ := Prod.mk.inj (Option.some.inj h)
          obtain ⟨rfl, rfl⟩ := Prod.mk.inj hh
          exact ⟨rfl, hd', ρ', hp', hF'⟩
        | ret =>
          obtain ⟨rfl, hh⟩ := Prod.mk.inj (Option.some.inj h)
          obtain ⟨rfl, rfl⟩ := Prod.mk.inj hh
          exact ⟨rfl, hd', ρ', hp', hF'⟩
        | exit j =>
          have h2 : (match Nat.beq j id with | true => some (AE.normal, fr1, S1) | false => some (AE.exit j, fr1, S1)) = some (e, fr', S') := h
          show Exit.inBlock id (After B w0 ρ S e fr' S') (.exit j) a' w'
          unfold Exit.inBlock
          cases hj : Nat.beq j id with
          | true =>
            rw [hj] at h2
            have hji := Nat.eq_of_beq_eq_true hj
            obtain ⟨rfl, hh⟩ := Prod.mk.inj (Option.some.inj h2)
            obtain ⟨rfl, rfl⟩ := Prod.mk.inj hh
            simp only [hji, if_true]
            exact ⟨rfl, hd', ρ', hp', hF'⟩
          | false =>
            rw [hj] at h2
            have hne : j ≠ id := by rintro rfl; simp at hj
            obtain ⟨rfl, hh⟩ := Prod.mk.inj (Option.some.inj h2)
            obtain ⟨rfl, rfl⟩ := Prod.mk.inj hh
            simp only [hne, if_false]
            exact ⟨rfl, hd', ρ', hp', hF'⟩
    case loop x =>
      simp only [compC, Option.map_eq_some_iff] at hc
      obtain ⟨cx, hx, rfl⟩ := hc
      exact wp_loop_rounds (f + 1) (loop_sound hx (f + 1) ihs fr S ρ a w hfull hF (.refl hR) hd)
    case exit id =>
      simp only [compC, Option.some.injEq] at hc
      subst hc
      simp only [body, Option.some.injEq, Prod.mk.injEq] at h
      obtain ⟨rfl, rfl, rfl⟩ := h
      exact wp_exit ⟨rfl, hd, ρ, .refl hR, hF⟩
    case ret =>
      simp only [compC, Option.some.injEq] at hc
      subst hc
      simp only [body, Option.some.injEq, Prod.mk.injEq] at h
      obtain ⟨rfl, rfl, rfl⟩ := h
      exact wp_ret ⟨rfl, hd, ρ, .refl hR, hF⟩
    all_goals cases hc

/-- A call of a function, from the abstract call. -/
theorem calls_of_exec {E : Env} (hE : E.Ok P) {f g : Nat} {args : List AV} {xs : List Value} {v : AV} {S' : St} (hg : (Nat.beq g E.mnz) = false) (h : acall E (exec E f) (.fn (.func g) [] []) args S = some (v, S')) (hx : VL ρ args xs) (hR : R B w0 ρ S w) :
    Calls P g xs.toArray w (fun en w' => ∃ x, en = .returned x ∧ ∃ ρ', Post B w0 ρ S (fun _ => False) ρ' S' w' ∧ V ρ' v x) := by
  unfold acall at h
  simp only [hg] at h
  split at h
  · cases h
  · rename_i cf ht
    split at h
    · cases h
    · rename_i hle
      split at h
      · cases h
      · cases h
      · rename_i en fr' S1 hne hrn
        simp only [Option.map_eq_some_iff, Prod.mk.injEq] at h
        obtain ⟨vs, hvs, rfl, rfl⟩ := h
        simp only [List.nil_append, List.append_nil] at hle hrn
        exact (enter_sound hE (exec_sound hE f) ht (Nat.le_of_ble_eq_true hle) hrn (fun id e => hne id (e ▸ rfl)) hvs hx hR).2
end Go.Eng
