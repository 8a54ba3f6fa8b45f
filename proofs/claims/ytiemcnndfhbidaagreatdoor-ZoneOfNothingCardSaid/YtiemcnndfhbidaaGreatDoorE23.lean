/-
  A region in whatever order: the theorem.
-/
import Derived.Test.YtiemcnndfhbidaaGreatDoorE22
set_option linter.unusedSimpArgs false
set_option linter.unusedVariables false
set_option linter.unusedSectionVars false
namespace Go.Eng
open Go.RowKit (Below)
variable {P : Program} {B : Nat} {w0 w : World} {ρ : Pl} {S : St} {fr : AFr} {a : Act} {rid : Nat}

/-- What is known of a drawn region. -/
structure Drawn (P : Program) (E : Env) (run : Runner) (ops : Array Oper) (es : List (List Nat)) (cos : List COp) (ps cs : List (Nat × Nat)) (rid : Nat) (fr0 : AFr) (F : Nat → AFr) (SS : Nat → St) (vv : Nat → AV) : Prop where
  ok : DrawOk es cos ps cs
  size : cos.length ≤ ops.size
  last : ∀ (j : Nat) (l : List Nat), es[j]? = some l → cos.length ≤ j → ∀ i, i < j → Nat.testBit ((masks es []).getD j 0) i = true
  edges : ∀ (i : Nat) (o : Oper), ops[i]? = some o → es[i]? = some (edgesOf o.after.toList)
  op : ∀ (i : Nat) (o : Oper), ops[i]? = some o → i < cos.length → ∃ c c0, cos[i]? = some c ∧ compOp P ops o = some c0 ∧ c.dst = c0.dst ∧ c.guard = c0.guard ∧ c.ci = c0.ci
  put : ∀ (i : Nat) (c : COp), cos[i]? = some c → (F i).put c.dst (vv i) = some (F (i + 1))
  start : F 0 = fr0
  step : ∀ (i : Nat) (c : COp), cos[i]? = some c → (wants (F i) c.guard = some false ∧ SS (i + 1) = SS i ∧ vv i = .tup []) ∨ (wants (F i) c.guard = some true ∧ doOp E run c (F i).ev (rid + i) (SS i) = some (vv i, SS (i + 1)))
  indep : ∀ (i j : Nat) (a b : COp), cos[i]? = some a → cos[j]? = some b → i < j → Nat.testBit ((masks es []).getD j 0) i = false → Indep (Item cos F SS vv rid) i j

theorem Drawn.frAt {E : Env} {run : Runner} {ops : Array Oper} {es : List (List Nat)} {cos : List COp} {ps cs : List (Nat × Nat)} {fr0 : AFr} {F : Nat → AFr} {SS : Nat → St} {vv : Nat → AV} (h : Drawn P E run ops es cos ps cs rid fr0 F SS vv) :
    ∀ i, i ≤ cos.length → FrAt cos vv fr0 (· < i) (F i)
  | 0, _ => by rw [h.start]; exact ⟨rfl, rfl, rfl, fun d c t _ hd => absurd hd (Nat.not_lt_zero _), fun _ _ => rfl⟩
  | i + 1, hi => by
    have hc : cos[i]? = some cos[i] := List.getElem?_eq_getElem (by omega)
    exact (h.frAt i (by omega)).put hc (fun d => by omega) (Nat.lt_irrefl _) h.ok.dst (h.put i _ hc)
theorem Drawn.item {E : Env} {run : Runner} {ops : Array Oper} {es : List (List Nat)} {cos : List COp} {ps cs : List (Nat × Nat)} {fr0 : AFr} {F : Nat → AFr} {SS : Nat → St} {vv : Nat → AV} (h : Drawn P E run ops es cos ps cs rid fr0 F SS vv)
    (i : Nat) (hi : i < cos.length) : Item cos F SS vv rid i (SS i) (SS (i + 1)) := by
  have hc : cos[i]? = some cos[i] := List.getElem?_eq_getElem hi
  refine ⟨_, hc, ?_⟩
  rcases h.step i _ hc with ⟨hw, hs, _⟩ | ⟨hw, hd⟩
  · exact .inl ⟨hw, hs⟩
  · refine .inr ⟨hw, ?_⟩
    unfold doOp at hd
    split at hd
    · rename_i hp
      simp only [Option.map_eq_some_iff, Prod.mk.injEq] at hd
      obtain ⟨u, hu, rfl, e⟩ := hd
      have ha := h.ok.pre i _ hc hp
      refine .inr ⟨?_, .inl ⟨hp, hu, e.symm⟩⟩
      cases hci : cos[i].ci <;> first | rfl | (rw [hci] at ha; cases ha)
    · rename_i f xs hp hci
      exact .inl ⟨by rw [hci]; rfl, hp, rfl, rfl⟩
    · rename_i hp hn
      refine .inr ⟨?_, .inr ⟨hp, hd⟩⟩
      cases hci : cos[i].ci <;> first | rfl | exact absurd hci (hn _ _)
theorem Drawn.run {E : Env} {run : Runner} {ops : Array Oper} {es : List (List Nat)} {cos : List COp} {ps cs : List (Nat × Nat)} {fr0 : AFr} {F : Nat → AFr} {SS : Nat → St} {vv : Nat → AV} (h : Drawn P E run ops es cos ps cs rid fr0 F SS vv) :
    ∀ (n i : Nat), i + n = cos.length → HRun (Item cos F SS vv rid) (List.range' i n) (SS i) (SS cos.length)
  | 0, i, hi => by
    have : i = cos.length := by omega
    rw [this]
    exact .nil
  | n + 1, i, hi => by
    rw [List.range'_succ]
    exact .cons (h.item i (by omega)) (h.run n (i + 1) (by omega))
theorem Drawn.doOp {E : Env} {run : Runner} {ops : Array Oper} {es : List (List Nat)} {cos : List COp} {ps cs : List (Nat × Nat)} {fr0 : AFr} {F : Nat → AFr} {SS : Nat → St} {vv : Nat → AV} (h : Drawn P E run ops es cos ps cs rid fr0 F SS vv)
    {i : Nat} {c : COp} {S T : St} (hc : cos[i]? = some c) (hi : Item cos F SS vv rid i S T) : (wants (F i) c.guard = some false ∧ T = S ∧ vv i = .tup []) ∨ (wants (F i) c.guard = some true ∧ Eng.doOp E run c (F i).ev (rid + i) S = some (vv i, T)) := by
  obtain ⟨c', hc', hh⟩ := hi
  obtain rfl := Option.some.inj (hc.symm.trans hc')
  rcases hh with ⟨hw, rfl⟩ | ⟨hw, hh⟩
  · rcases h.step i c hc with ⟨_, _, hv⟩ | ⟨hw', _⟩
    · exact .inl ⟨hw, rfl, hv⟩
    · rw [hw] at hw'; cases hw'
  · refine .inr ⟨hw, ?_⟩
    rcases hh with ⟨_, _, rfl, rfl⟩ | ⟨hn, hr⟩
    · rcases h.step i c hc with ⟨hw', _⟩ | ⟨_, hd⟩
      · rw [hw] at hw'; cases hw'
      · exact hd
    · unfold Eng.doOp
      rcases hr with ⟨hp, hs, rfl⟩ | ⟨hp, ha⟩
      · rw [hp]
        show (stay c.ci (F i).ev (rid + i) _).map _ = _
        rw [hs]
        rfl
      · split
        · rename_i e
          rw [hp] at e
          cases e
        · rename_i f xs _ e
          rw [e] at hn
          cases hn
        · exact ha

theorem any_sound {r : Option Nat} {E : Env} {run : Runner} {ops : Array Oper} {es : List (List Nat)} {cos : List COp} {ps cs : List (Nat × Nat)} {fr0 : AFr} {F : Nat → AFr} {SS : Nat → St} {vv : Nat → AV} {Q : Exit → Act → World → Prop}
    (hE : E.Ok P) (hrun : RunOk P B w0 run) (h : Drawn P E run ops es cos ps cs rid fr0 F SS vv) {ρ0 : Pl} {S0 : St}
    (hQ : ∀ listed ρ' a' w', listed.size = ops.size → (∀ i, i < ops.size → (listed.getD i true = false ↔ cos.length ≤ i)) → Post B w0 ρ0 S0 (fun q => rid ≤ q ∧ q < rid + ops.size) ρ' (SS cos.length) w' → FR ρ' (F cos.length) a' → CodeOk P ρ' →
      (∀ i, cos.length ≤ i → i < ops.size → Fresh ρ' (SS cos.length) (rid + i)) → wpAnyIn (FF r) 0 P .any ops Q (ops.size - cos.length) listed a' w') :
    ∀ (fuel : Nat) (listed : Array Bool) (L : List Nat) (g : AFr) (ρ : Pl) (T : St) (a : Act) (w : World), L.length = fuel → listed.size = ops.size → (∀ i, i < ops.size → (listed.getD i true = false ↔ (i ∈ L ∨ cos.length ≤ i))) → (∀ i ∈ L, i < cos.length) → L.Pairwise (· < ·) →
      (∀ (d : Nat), d < cos.length → d ∉ L → ∀ e, Nat.testBit ((masks es []).getD d 0) e = true → e ∉ L) → HRun (Item cos F SS vv rid) L T (SS cos.length) → FrAt cos vv fr0 (· ∉ L) g → FR ρ g a → CodeOk P ρ →
      Post B w0 ρ0 S0 (fun q => rid ≤ q ∧ q < rid + ops.size) ρ T w → (∀ i, (i ∈ L ∨ cos.length ≤ i) → i < ops.size → Fresh ρ T (rid + i)) → wpAnyIn (FF r) 0 P .any ops Q (fuel + (ops.size - cos.length)) listed a w := by
  have hin : ∀ {d : Nat} {b : COp}, cos[d]? = some b → d < cos.length := fun hb => (List.getElem?_eq_some_iff.1 hb).1
  have done : ∀ (listed : Array Bool) (g : AFr) (ρ : Pl) (T : St) (a : Act) (w : World), listed.size = ops.size → (∀ i, i < ops.size → (listed.getD i true = false ↔ cos.length ≤ i)) → HRun (Item cos F SS vv rid) [] T (SS cos.length) → FrAt cos vv fr0 (· ∉ ([] : List Nat)) g → FR ρ g a → CodeOk P ρ →
      Post B w0 ρ0 S0 (fun q => rid ≤ q ∧ q < rid + ops.size) ρ T w → (∀ i, cos.length ≤ i → i < ops.size → Fresh ρ T (rid + i)) → wpAnyIn (FF r) 0 P .any ops Q (ops.size - cos.length) listed a w := by
    intro listed g ρ T a w hs hL hr hg hF hP hp hf
    generalize hN : SS cos.length = U at hr
    cases hr
    subst hN
    refine hQ listed ρ a w hs hL hp ?_ hP hf
    have hfn := h.frAt cos.length (Nat.le_refl _)
    refine ⟨hF.size.trans (hg.n.trans hfn.n.symm), fun t => ?_, by rw [hfn.d, ← hg.d]; exact hF.dl⟩
    have : g.get t = (F cos.length).get t := by
      by_cases hx : ∃ (d : Nat) (b : COp), cos[d]? = some b ∧ b.dst = some t
      · obtain ⟨d, b, hb, hbt⟩ := hx
        rw [hg.new d b t hb (by simp) hbt, hfn.new d b t hb (hin hb) hbt]
      · rw [hg.old t (fun d b hb _ hbt => hx ⟨d, b, hb, hbt⟩), hfn.old t (fun d b hb _ hbt => hx ⟨d, b, hb, hbt⟩)]
    rw [← this]
    exact hF.at_ t
  have hes : ∀ {j : Nat}, j < ops.size → ∃ o, ops[j]? = some o ∧ es[j]? = some (edgesOf o.after.toList) := fun {j} hj => ⟨ops[j], Array.getElem?_eq_getElem hj, h.edges j _ (Array.getElem?_eq_getElem hj)⟩
  have inL : ∀ {listed : Array Bool} {L : List Nat} {i : Nat}, L ≠ [] → listed.size = ops.size → (∀ i, i < ops.size → (listed.getD i true = false ↔ (i ∈ L ∨ cos.length ≤ i))) → (∀ i ∈ L, i < cos.length) →
      (∀ (d : Nat), d < cos.length → d ∉ L → ∀ e, Nat.testBit ((masks es []).getD d 0) e = true → e ∉ L) → i ∈ Region.ready .any ops listed →
      i ∈ L ∧ ∃ o, ops[i]? = some o ∧ ∀ e ∈ o.after, Region.binds .any e = true → listed.getD e.on false = true := by
    intro listed L i hne hs hL hlt hcl hi
    obtain ⟨h1, o, ho, h2⟩ := mem_ready.1 hi
    have hin' := (Array.getElem?_eq_some_iff.1 ho).1
    refine ⟨?_, o, ho, h2⟩
    rcases (hL i hin').1 h1 with hiL | hge
    · exact hiL
    exfalso
    obtain ⟨x, hx⟩ := List.exists_mem_of_ne_nil L hne
    have hxm := hlt x hx
    have hb := h.last i _ (h.edges i o ho) hge x (by omega)
    rw [h.ok.bit i _ (h.edges i o ho) x, List.any_eq_true] at hb
    obtain ⟨d, hd', hxd⟩ := hb
    obtain ⟨ed, hed, hbn, rfl⟩ := of_mem_edgesOf hd'
    have hdl := h.ok.lt i _ (h.edges i o ho) ed.on hd'
    have hl1 := h2 ed (Array.mem_toList_iff.1 hed) hbn
    have hdn : ¬ (ed.on ∈ L ∨ cos.length ≤ ed.on) := by
      intro hx
      have h1 := (hL ed.on (by omega)).2 hx
      have h2 : listed[ed.on]? = some listed[ed.on] := Array.getElem?_eq_getElem (by omega)
      rw [Array.getD_eq_getD_getElem?, h2] at h1 hl1
      simp only [Option.getD_some] at h1 hl1
      rw [h1] at hl1
      cases hl1
    simp only [Bool.or_eq_true, beq_iff_eq] at hxd
    rcases hxd with e | hxd
    · exact hdn (.inl (e ▸ hx))
    · exact hcl ed.on (by omega) (fun hq => hdn (.inl hq)) x hxd hx
  intro fuel
  induction fuel with
  | zero =>
    intro listed L g ρ T a w hl hs hL hlt hpw hcl hr hg hF hP hp hf
    have : L = [] := List.eq_nil_of_length_eq_zero hl
    subst this
    rw [Nat.zero_add]
    exact done listed g ρ T a w hs (fun i hi => by simpa using hL i hi) hr hg hF hP hp (fun i h1 h2 => hf i (.inr h1) h2)
  | succ fuel ih =>
    intro listed L g ρ T a w hl hs hL hlt hpw hcl hr hg hF hP hp hf
    have hne0 : L ≠ [] := by rintro rfl; cases hl
    have hsz := h.size
    rw [Nat.succ_add]
    refine ⟨fun hnil => ?_, fun i hi => ?_⟩
    · exfalso
      match L, hl with
      | m :: L', _ =>
        have hmc := hlt m List.mem_cons_self
        have hm : m < ops.size := by omega
        have hom : ops[m]? = some ops[m] := Array.getElem?_eq_getElem hm
        have : m ∈ Region.ready .any ops listed := by
          refine mem_ready.2 ⟨(hL m hm).2 (.inl List.mem_cons_self), _, hom, fun e he hb => ?_⟩
          have hlt' := h.ok.lt m _ (h.edges m _ hom) e.on (mem_edgesOf (Array.mem_toList_iff.2 he) hb)
          have hne : e.on ∉ m :: L' := by
            intro hx
            rcases List.mem_cons.1 hx with hx | hx
            · omega
            · have := (List.pairwise_cons.1 hpw).1 _ hx
              omega
          have hen : e.on < ops.size := by omega
          have h1 : ¬ listed.getD e.on true = false := fun hx => ((hL _ hen).1 hx).elim hne (by omega)
          have h2 : listed[e.on]? = some listed[e.on] := Array.getElem?_eq_getElem (by omega)
          rw [Array.getD_eq_getD_getElem?, h2] at h1 ⊢
          simpa using h1
        rw [hnil] at this
        cases this
    · obtain ⟨hiL, o, ho, hedge⟩ := inL hne0 hs hL hlt hcl hi
      have hic := hlt i hiL
      have hin' : i < ops.size := by omega
      obtain ⟨c, c0, hc, hc0, e1, e2, e3⟩ := h.op i o ho hic
      obtain ⟨s1, s2, s3⟩ := compOp_spec hc0
      have hbits : ∀ e, Nat.testBit ((masks es []).getD i 0) e = true → e ∉ L := by
        intro e he
        rw [h.ok.bit i _ (h.edges i o ho) e, List.any_eq_true] at he
        obtain ⟨d, hd', hx⟩ := he
        obtain ⟨ed, hed, hb, rfl⟩ := of_mem_edgesOf hd'
        have hdl := h.ok.lt i _ (h.edges i o ho) ed.on hd'
        have hl1 := hedge ed (Array.mem_toList_iff.1 hed) hb
        have hdn : ed.on ∉ L := by
          intro hx
          have h1 := (hL ed.on (by omega)).2 (.inl hx)
          have h2 : listed[ed.on]? = some listed[ed.on] := Array.getElem?_eq_getElem (by omega)
          rw [Array.getD_eq_getD_getElem?, h2] at h1 hl1
          simp only [Option.getD_some] at h1 hl1
          rw [h1] at hl1
          cases hl1
        simp only [Bool.or_eq_true, beq_iff_eq] at hx
        rcases hx with rfl | hx
        · exact hdn
        · exact hcl ed.on (by omega) hdn e hx
      obtain ⟨A, C, rfl⟩ := List.append_of_mem hiL
      obtain ⟨pw, hA, hnot⟩ := cat_pairwise hpw
      have hmem : ∀ {d : Nat}, d ∉ A ++ C ↔ (d ∉ A ++ i :: C ∨ d = i) := by
        intro d
        constructor
        · intro hd
          by_cases e : d = i
          · exact .inr e
          · refine .inl fun hx => hd ?_
            rcases List.mem_append.1 hx with hx | hx
            · exact List.mem_append.2 (.inl hx)
            · rcases List.mem_cons.1 hx with hx | hx
              · exact absurd hx e
              · exact List.mem_append.2 (.inr hx)
        · rintro (hd | rfl)
          · intro hx
            refine hd ?_
            rcases List.mem_append.1 hx with hx | hx
            · exact List.mem_append.2 (.inl hx)
            · exact List.mem_append.2 (.inr (List.mem_cons_of_mem _ hx))
          · exact hnot
      have hsubL : ∀ {d : Nat}, d ∈ A ++ C → d ∈ A ++ i :: C := fun {d} hd => by
        by_cases hx : d ∈ A ++ i :: C
        · exact hx
        · exact absurd hd (hmem.2 (.inl hx))
      have hlook := looks_eq h.ok hc hg (h.frAt i (by omega)) hiL hbits hcl
      have hpull := hr.pull (fun x hx => by
        have hxl := hlt x (List.mem_append.2 (.inl hx))
        obtain ⟨cx, _, hcx, _⟩ := h.op x _ (Array.getElem?_eq_getElem (show x < ops.size by omega)) hxl
        refine h.indep x i cx c hcx hc (hA x hx) ?_
        cases hb : Nat.testBit ((masks es []).getD i 0) x with
        | false => rfl
        | true => exact absurd (List.mem_append.2 (.inl hx)) (hbits x hb))
      generalize hU : SS cos.length = U at hpull
      cases hpull with
      | cons hitem hrest =>
      rename_i T1
      subst hU
      have hstep := h.doOp hc hitem
      have hwants : wants g c.guard = wants (F i) c.guard := wants_congr fun d b hgd => hlook d (by unfold COp.looks; rw [hgd]; exact List.mem_cons_self)
      have hci : ∀ t ∈ c.ci.tmps, g.get t = (F i).get t := fun t ht => hlook t (by unfold COp.looks; split <;> simp [ht])
      have hgn : g.n = (F i).n := hg.n.trans (h.frAt i (by omega)).n.symm
      obtain ⟨g', hg'⟩ := AFr.put_some hgn (h.put i c hc)
      have hfr' : FrAt cos vv fr0 (· ∉ A ++ C) g' := hg.put hc (fun d => hmem) (fun hn => hn hiL) h.ok.dst hg'
      have hcl' : ∀ (d : Nat), d < cos.length → d ∉ A ++ C → ∀ e, Nat.testBit ((masks es []).getD d 0) e = true → e ∉ A ++ C := by
        intro d hd hdn e he hx
        rcases hmem.1 hdn with hdn | rfl
        · exact hcl d hd hdn e he (hsubL hx)
        · exact hbits e he (hsubL hx)
      have hL' : ∀ j, j < ops.size → ((listed.setIfInBounds i true).getD j true = false ↔ (j ∈ A ++ C ∨ cos.length ≤ j)) := by
        intro j hj
        by_cases e : j = i
        · subst e
          constructor
          · intro hx
            rw [Array.getD_eq_getD_getElem?, Array.getElem?_setIfInBounds_self_of_lt (by omega)] at hx
            cases hx
          · rintro (hx | hx)
            · exact absurd hx hnot
            · omega
        · rw [getD_set_ne true (Ne.symm e), hL j hj]
          constructor
          · rintro (hx | hx)
            · by_cases hy : j ∈ A ++ C
              · exact .inl hy
              · rcases hmem.1 hy with hy | hy
                · exact absurd hx hy
                · exact absurd hy e
            · exact .inr hx
          · exact fun hx => hx.imp hsubL id
      have hlen : (A ++ C).length = fuel := by
        have : (A ++ i :: C).length = fuel + 1 := hl
        simp only [List.length_append, List.length_cons] at this ⊢
        omega
      have hlt' : ∀ j ∈ A ++ C, j < cos.length := fun j hj => hlt j (hsubL hj)
      have hne : ∀ j, (j ∈ A ++ C ∨ cos.length ≤ j) → rid + j ≠ rid + i := fun j hj e => by
        have : j = i := by omega
        rcases hj with hj | hj
        · exact hnot (this ▸ hj)
        · omega
      unfold wpOpIn
      rw [ho]
      simp only []
      rcases hstep with ⟨hw, rfl, hv⟩ | ⟨hw, hdo⟩
      · rw [wanted_eq hc0 hF (by rw [← e2, hwants]; exact hw)]
        simp only [Bool.false_eq_true, if_false]
        rw [← s1, ← e1]
        rw [hv] at hg'
        exact ⟨fun _ _ => trivial, ih _ (A ++ C) g' ρ T1 _ w hlen (by simpa using hs) hL' hlt' pw hcl' hrest hfr' (hF.put .undef hg') hP hp (fun j hj hjs => hf j (hj.imp hsubL id) hjs)⟩
      · rw [wanted_eq hc0 hF (by rw [← e2, hwants]; exact hw)]
        simp only [if_true]
        have hdo' : Eng.doOp E run c g.ev (rid + i) T = some (vv i, T1) := by rw [doOp_congr hci]; exact hdo
        refine op_sound hE hrun (e3.trans s2) hF hp.r hP (hf i (.inl hiL) hin') hdo' (fun ρ1 x w1 hpo hvx => ?_)
        rw [← s1, ← e1]
        refine ih _ (A ++ C) g' ρ1 T1 _ w1 hlen (by simpa using hs) hL' hlt' pw hcl' hrest hfr' ((hF.mono hpo.sub).put hvx hg') (hP.sub hpo.sub) ?_ (fun j hj hjs => hpo.fr _ (hne j hj) (hf j (hj.imp hsubL id) hjs))
        · exact hp.trans hpo (fun q hq _ => hq) (fun q hq _ => by
            have hq : q = rid + i := hq
            exact ⟨by omega, by omega⟩)
/-- Operations of which each is ordered behind all that stand ahead of it go in order. -/
theorem tail_any {r : Option Nat} {ops : Array Oper} {es : List (List Nat)} {cos : List COp} {ps cs : List (Nat × Nat)} {Q : Exit → Act → World → Prop} {m : Nat} (hok : DrawOk es cos ps cs)
    (hedges : ∀ (i : Nat) (o : Oper), ops[i]? = some o → es[i]? = some (edgesOf o.after.toList))
    (last : ∀ (j : Nat) (l : List Nat), es[j]? = some l → m ≤ j → ∀ i, i < j → Nat.testBit ((masks es []).getD j 0) i = true) :
    ∀ (n i : Nat) (listed : Array Bool) (a : Act) (w : World), i + n = ops.size → m ≤ i → listed.size = ops.size → (∀ j, j < ops.size → (listed.getD j true = false ↔ i ≤ j)) →
      wpOpsIn (FF r) 0 P ops Q (List.range' i n) a w → wpAnyIn (FF r) 0 P .any ops Q n listed a w := by
  have rd : ∀ (i : Nat) (listed : Array Bool), m ≤ i → listed.size = ops.size → (∀ j, j < ops.size → (listed.getD j true = false ↔ i ≤ j)) → ∀ j ∈ Region.ready .any ops listed, j = i ∧ i < ops.size := by
    intro i listed hm hs hL j hj
    obtain ⟨h1, o, ho, h2⟩ := mem_ready.1 hj
    have hjs := (Array.getElem?_eq_some_iff.1 ho).1
    have hij := (hL j hjs).1 h1
    by_cases e : j = i
    · exact ⟨e, by omega⟩
    exfalso
    have hb := last j _ (hedges j o ho) (by omega) i (by omega)
    rw [hok.bit j _ (hedges j o ho) i, List.any_eq_true] at hb
    obtain ⟨d, hd', hxd⟩ := hb
    obtain ⟨ed, hed, hbn, rfl⟩ := of_mem_edgesOf hd'
    have hdl := hok.lt j _ (hedges j o ho) ed.on hd'
    have hl1 := h2 ed (Array.mem_toList_iff.1 hed) hbn
    have hdn : ¬ i ≤ ed.on := by
      intro hx
      have h1 := (hL ed.on (by omega)).2 hx
      have h2 : listed[ed.on]? = some listed[ed.on] := Array.getElem?_eq_getElem (by omega)
      rw [Array.getD_eq_getD_getElem?, h2] at h1 hl1
      simp only [Option.getD_some] at h1 hl1
      rw [h1] at hl1
      cases hl1
    simp only [Bool.or_eq_true, beq_iff_eq] at hxd
    rcases hxd with e' | hxd
    · omega
    · have hds : ed.on < ops.size := by omega
      have := hok.bit_lt ed.on _ (hedges ed.on ops[ed.on] (Array.getElem?_eq_getElem hds)) i hxd
      omega
  intro n
  induction n with
  | zero =>
    intro i listed a w hi hm hs hL hw
    refine ⟨List.eq_nil_iff_forall_not_mem.2 fun j hj => ?_, hw⟩
    have := (rd i listed hm hs hL j hj).2
    omega
  | succ n ih =>
    intro i listed a w hi hm hs hL hw
    have his : i < ops.size := by omega
    rw [List.range'_succ, wpOpsIn_cons] at hw
    refine ⟨fun hnil => ?_, fun j hj => ?_⟩
    · exfalso
      have : i ∈ Region.ready .any ops listed := by
        refine mem_ready.2 ⟨(hL i his).2 (Nat.le_refl _), _, Array.getElem?_eq_getElem his, fun e he hb => ?_⟩
        have hlt' := hok.lt i _ (hedges i _ (Array.getElem?_eq_getElem his)) e.on (mem_edgesOf (Array.mem_toList_iff.2 he) hb)
        have h1 : ¬ listed.getD e.on true = false := fun hx => by
          have := (hL _ (by omega)).1 hx
          omega
        have h2 : listed[e.on]? = some listed[e.on] := Array.getElem?_eq_getElem (by omega)
        rw [Array.getD_eq_getD_getElem?, h2] at h1 ⊢
        simpa using h1
      rw [hnil] at this
      cases this
    · obtain ⟨rfl, _⟩ := rd i listed hm hs hL j hj
      refine wpOpIn_mono (fun a w hw => ?_) hw
      refine ih (j + 1) _ a w (by omega) (by omega) (by simpa using hs) (fun k hk => ?_) hw
      by_cases e : k = j
      · subst e
        constructor
        · intro hx
          rw [Array.getD_eq_getD_getElem?, Array.getElem?_setIfInBounds_self_of_lt (by omega)] at hx
          cases hx
        · intro hx; omega
      · rw [getD_set_ne true (Ne.symm e), hL k hk]
        omega
end Go.Eng
