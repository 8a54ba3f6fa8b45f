/-
  A region in whatever order is carried out as the one run says.
-/
import Derived.Test.YtiemcnndfhbidaaGreatDoorE21
set_option linter.unusedSimpArgs false
set_option linter.unusedVariables false
set_option linter.unusedSectionVars false
namespace Go.Eng
open Go.RowKit (Below)
variable {P : Program} {B : Nat} {w0 w : World} {ρ : Pl} {S : St} {fr : AFr} {a : Act} {rid : Nat}

theorem R.pre (h : R B w0 ρ S w) {id : Nat} (hf : Fresh ρ S id) (z : List AV) : R B w0 ρ (newRow S id z) w := by
  refine ⟨h.ok.new hf.lt ⟨rfl, rfl, rfl⟩ hf.rt, h.below, h.base, h.dom, ?_, ?_, ?_⟩
  · intro j k r hj hr
    by_cases e : j = id
    · subst e; rw [hf.un] at hr; cases hr
    · exact h.blk j k r (by rwa [newRow, St.get_put_ne _ _ e] at hj) hr
  · intro j k r hj hr hm
    by_cases e : j = id
    · subst e; rw [hf.un] at hr; cases hr
    · exact h.fresh j k r (by rwa [newRow, St.get_put_ne _ _ e] at hj) hr hm
  · intro i k r j q r' hi hr hj hr' hne hb
    by_cases e : i = id
    · subst e; rw [hf.un] at hr; cases hr
    · by_cases e' : j = id
      · subst e'; rw [hf.un] at hr'; cases hr'
      · exact h.sep i k r j q r' (by rwa [newRow, St.get_put_ne _ _ e] at hi) hr (by rwa [newRow, St.get_put_ne _ _ e'] at hj) hr' hne hb
theorem Fresh.pre {id q : Nat} (h : Fresh ρ S q) (z : List AV) : Fresh ρ (newRow S id z) q := by
  refine ⟨h.lt, h.un, fun j cs pos wr al tl hj => ?_⟩
  unfold newRow at hj
  rw [St.get_put] at hj
  by_cases e : j = id
  · rw [if_pos e] at hj
    have := Option.some.inj hj
    simp only [Blk.cells.injEq] at this
    rw [e]; exact this.2.1
  · rw [if_neg e] at hj
    exact h.rt j cs pos wr al tl hj
theorem preAll_sound (ev : Opd → AV) : ∀ (os : List COp) (rid : Nat) (S : St), R B w0 ρ S w → (∀ q, rid ≤ q → q < rid + os.length → Fresh ρ S q) →
    R B w0 ρ (preAll ev os rid S) w ∧ (preAll ev os rid S).next = S.next ∧ ∀ q, Fresh ρ S q → Fresh ρ (preAll ev os rid S) q
  | [], _, _, h, _ => ⟨h, rfl, fun _ f => f⟩
  | o :: os, rid, S, h, hf => by
    simp only [preAll]
    split
    · rename_i z _ _
      obtain ⟨h1, h2, h3⟩ := preAll_sound ev os (rid + 1) (newRow S rid z) (h.pre (hf rid (Nat.le_refl _) (by simp)) z) (fun q g1 g2 => (hf q (by omega) (by simp; omega)).pre z)
      exact ⟨h1, h2, fun q f => h3 q (f.pre z)⟩
    · split
      · rename_i z _ _ _ cs _
        obtain ⟨h1, h2, h3⟩ := preAll_sound ev os (rid + 1) (newRow S rid cs) (h.pre (hf rid (Nat.le_refl _) (by simp)) cs) (fun q g1 g2 => (hf q (by omega) (by simp; omega)).pre cs)
        exact ⟨h1, h2, fun q f => h3 q (f.pre cs)⟩
      · exact preAll_sound ev os (rid + 1) S h (fun q g1 g2 => hf q (by omega) (by simp; omega))
    · exact preAll_sound ev os (rid + 1) S h (fun q g1 g2 => hf q (by omega) (by simp; omega))

theorem compOps_get {all : Array Oper} : ∀ {l : List Oper} {cs : List COp}, compOps P all l = some cs → ∀ (i : Nat) (o : Oper), l[i]? = some o → ∃ c, cs[i]? = some c ∧ compOp P all o = some c
  | [], cs, h, i, o, hi => by simp at hi
  | o0 :: l, cs, h, i, o, hi => by
    simp only [compOps] at h
    split at h
    · rename_i c r h1 h2
      obtain rfl := Option.some.inj h
      cases i with
      | zero =>
        simp only [List.getElem?_cons_zero, Option.some.injEq] at hi
        subst hi
        exact ⟨c, rfl, h1⟩
      | succ i => exact compOps_get h2 i o (by simpa using hi)
    · cases h
theorem setPre_get {ms : List Nat} {l : List COp} {i : Nat} {c : COp} (h : (setPre ms l)[i]? = some c) : ∃ c0, l[i]? = some c0 ∧ c.dst = c0.dst ∧ c.guard = c0.guard ∧ c.ci = c0.ci := by
  unfold setPre at h
  rw [List.getElem?_map, Option.map_eq_some_iff] at h
  obtain ⟨⟨c0, k⟩, h1, rfl⟩ := h
  rw [List.getElem?_zipIdx, Option.map_eq_some_iff] at h1
  obtain ⟨c1, h1, e⟩ := h1
  obtain ⟨rfl, rfl⟩ := Prod.mk.inj e
  exact ⟨_, h1, rfl, rfl, rfl⟩
theorem setPre_length {ms : List Nat} {l : List COp} : (setPre ms l).length = l.length := by simp [setPre]

theorem AFr.put_some {g f f' : AFr} {d : Option Nat} {v : AV} (hn : g.n = f.n) (h : f.put d v = some f') : ∃ g', g.put d v = some g' := by
  cases d with
  | none => exact ⟨g, rfl⟩
  | some d =>
    simp only [AFr.put_eq] at h ⊢
    rw [hn]
    split at h
    · exact ⟨_, rfl⟩
    · cases h
theorem AFr.put_get {g g' : AFr} {d : Option Nat} {v : AV} (h : g.put d v = some g') (t : Nat) : g'.get t = if d = some t then v else g.get t := by
  cases d with
  | none => simp only [AFr.put, Option.some.injEq] at h; rw [← h]; rfl
  | some d =>
    simp only [AFr.put_eq] at h
    split at h
    · obtain rfl := Option.some.inj h
      rw [AFr.get_set]
      by_cases e : t = d
      · subst e; rw [if_pos rfl, if_pos rfl]
      · rw [if_neg e, if_neg (fun h => e (Option.some.inj h).symm)]
    · cases h

/-- A frame behind some of the operations. -/
structure FrAt (cos : List COp) (vv : Nat → AV) (fr0 : AFr) (D : Nat → Prop) (g : AFr) : Prop where
  n : g.n = fr0.n
  d : g.d = fr0.d
  rd : g.rd = fr0.rd
  new : ∀ (d : Nat) (c : COp) (t : Nat), cos[d]? = some c → D d → c.dst = some t → g.get t = vv d
  old : ∀ t, (∀ (d : Nat) (c : COp), cos[d]? = some c → D d → c.dst ≠ some t) → g.get t = fr0.get t
theorem FrAt.put {cos : List COp} {vv : Nat → AV} {fr0 g g' : AFr} {D D' : Nat → Prop} (h : FrAt cos vv fr0 D g) {i : Nat} {c : COp} (hc : cos[i]? = some c) (hD : ∀ d, D' d ↔ (D d ∨ d = i)) (hi : ¬ D i)
    (hdis : ∀ (d e : Nat) (a b : COp) (t : Nat), cos[d]? = some a → cos[e]? = some b → d ≠ e → a.dst = some t → b.dst ≠ some t) (hp : g.put c.dst (vv i) = some g') : FrAt cos vv fr0 D' g' := by
  refine ⟨(AFr.put_n hp).trans h.n, (AFr.put_d hp).trans h.d, (AFr.put_rd hp).trans h.rd, fun d b t hb hd hdt => ?_, fun t ht => ?_⟩
  · rw [AFr.put_get hp]
    rcases (hD d).1 hd with hd | rfl
    · have hne : d ≠ i := by rintro rfl; exact hi hd
      rw [if_neg (hdis d i b c t hb hc hne hdt)]
      exact h.new d b t hb hd hdt
    · obtain rfl := Option.some.inj (hc.symm.trans hb)
      rw [if_pos hdt]
  · rw [AFr.put_get hp, if_neg (ht i c hc ((hD i).2 (.inr rfl)))]
    exact h.old t (fun d b hb hd => ht d b hb ((hD d).2 (.inl hd)))

theorem sameDst_false {a b : COp} {t : Nat} (h : sameDst a b = false) (ha : a.dst = some t) : b.dst ≠ some t := by
  intro hb
  simp [sameDst, ha, hb] at h
theorem dstIs_iff {o : COp} {t : Nat} : dstIs o t = true ↔ o.dst = some t := by
  unfold dstIs
  cases o.dst with
  | none => simp
  | some d =>
    simp only [Option.some.injEq]
    exact ⟨Nat.eq_of_beq_eq_true, fun h => by rw [h]; exact Nat.beq_refl t⟩

structure DrawOk (es : List (List Nat)) (cos : List COp) (ps cs : List (Nat × Nat)) : Prop where
  len : cos.length ≤ es.length
  lt : ∀ (j : Nat) (l : List Nat), es[j]? = some l → ∀ e ∈ l, e < j
  bit : ∀ (j : Nat) (l : List Nat), es[j]? = some l → ∀ e, Nat.testBit ((masks es []).getD j 0) e = l.any fun d => d == e || Nat.testBit ((masks es []).getD d 0) e
  pre : ∀ (i : Nat) (c : COp), cos[i]? = some c → c.pre = true → isAlloc c.ci = true
  reads : ∀ (i j : Nat) (a b : COp), cos[i]? = some a → cos[j]? = some b → readsOk (masks es []) i a.looks j b = true
  dst : ∀ (i j : Nat) (a b : COp) (t : Nat), cos[i]? = some a → cos[j]? = some b → i ≠ j → a.dst = some t → b.dst ≠ some t
  pair : ∀ (i j : Nat) (a b : COp), cos[i]? = some a → cos[j]? = some b → i < j → pairOk (masks es []) ps cs i a j b = true
theorem okDraw_spec {es : List (List Nat)} {cos : List COp} {ps cs : List (Nat × Nat)} (h : okDraw es cos ps cs = true) : DrawOk es cos ps cs := by
  unfold okDraw at h
  simp only [Bool.and_eq_true] at h
  obtain ⟨h1, h2, h3⟩ := h
  have key : ∀ (i : Nat) (a : COp), cos[i]? = some a → (match a.pre with | true => isAlloc a.ci | false => true) = true ∧ ∀ (j : Nat) (b : COp), cos[j]? = some b →
      readsOk (masks es []) i a.looks j b = true ∧ (j ≤ i ∨ (sameDst a b = false ∧ pairOk (masks es []) ps cs i a j b = true)) := by
    intro i a ha
    have := allFrom_spec h3 i a ha
    rw [Nat.zero_add, Bool.and_eq_true] at this
    refine ⟨this.1, fun j b hb => ?_⟩
    have := allFrom_spec this.2 j b hb
    rw [Nat.zero_add] at this
    simp only [Bool.and_eq_true, Bool.or_eq_true, Bool.not_eq_true'] at this
    exact ⟨this.1, this.2.imp Nat.le_of_ble_eq_true id⟩
  have pair : ∀ (i j : Nat) (a b : COp), cos[i]? = some a → cos[j]? = some b → i < j → sameDst a b = false ∧ pairOk (masks es []) ps cs i a j b = true :=
    fun i j a b ha hb hij => ((key i a ha).2 j b hb).2.resolve_left (by omega)
  refine ⟨Nat.le_of_eq (Nat.eq_of_beq_eq_true h1).symm, fun j l hj e he => by have := edgesLt_spec es 0 h2 j l hj e he; omega, fun j l hj e => ?_, fun i c hc hp => ?_, fun i j a b ha hb => ((key i a ha).2 j b hb).1, fun i j a b t ha hb hne hat hbt => ?_, fun i j a b ha hb hij => (pair i j a b ha hb hij).2⟩
  · have := masks_bit es [] h2 j l hj e
    simpa using this
  · have := (key i c hc).1
    rw [hp] at this
    exact this
  · rcases Nat.lt_or_gt_of_ne hne with hij | hij
    · exact sameDst_false (pair i j a b ha hb hij).1 hat hbt
    · exact sameDst_false (pair j i b a hb ha hij).1 hbt hat
theorem DrawOk.take {es : List (List Nat)} {cos : List COp} {ps cs : List (Nat × Nat)} (h : DrawOk es cos ps cs) (m : Nat) : DrawOk es (cos.take m) ps cs := by
  have g : ∀ {i : Nat} {c : COp}, (cos.take m)[i]? = some c → cos[i]? = some c := by
    intro i c hc
    rw [List.getElem?_take] at hc
    split at hc
    · exact hc
    · cases hc
  exact ⟨Nat.le_trans (by simp; omega) h.len, h.lt, h.bit, fun i c hc => h.pre i c (g hc), fun i j a b ha hb => h.reads i j a b (g ha) (g hb), fun i j a b t ha hb => h.dst i j a b t (g ha) (g hb), fun i j a b ha hb => h.pair i j a b (g ha) (g hb)⟩
theorem DrawOk.bit_lt {es : List (List Nat)} {cos : List COp} {ps cs : List (Nat × Nat)} (h : DrawOk es cos ps cs) : ∀ (j : Nat) (l : List Nat), es[j]? = some l → ∀ e, Nat.testBit ((masks es []).getD j 0) e = true → e < j := by
  intro j
  induction j using Nat.strongRecOn with
  | _ j ih =>
    intro l hj e he
    rw [h.bit j l hj e, List.any_eq_true] at he
    obtain ⟨d, hd, hx⟩ := he
    have hdj := h.lt j l hj d hd
    simp only [Bool.or_eq_true, beq_iff_eq] at hx
    rcases hx with rfl | hx
    · exact hdj
    · have hlt : j < es.length := (List.getElem?_eq_some_iff.1 hj).1
      have := ih d hdj es[d] (List.getElem?_eq_getElem (by omega)) e hx
      omega
theorem mem_edgesOf {e : Edge} : ∀ {l : List Edge}, e ∈ l → Region.binds .any e = true → e.on ∈ edgesOf l
  | x :: l, h, hb => by
    simp only [edgesOf]
    rcases List.mem_cons.1 h with rfl | h
    · rw [hb]
      exact List.mem_cons_self
    · split
      · exact List.mem_cons_of_mem _ (mem_edgesOf h hb)
      · exact mem_edgesOf h hb
theorem of_mem_edgesOf {n : Nat} : ∀ {l : List Edge}, n ∈ edgesOf l → ∃ e ∈ l, Region.binds .any e = true ∧ e.on = n
  | [], h => by simp [edgesOf] at h
  | x :: l, h => by
    simp only [edgesOf] at h
    split at h
    · rename_i hb
      rcases List.mem_cons.1 h with rfl | h
      · exact ⟨x, List.mem_cons_self, hb, rfl⟩
      · obtain ⟨e, he, h1, h2⟩ := of_mem_edgesOf h
        exact ⟨e, List.mem_cons_of_mem _ he, h1, h2⟩
    · obtain ⟨e, he, h1, h2⟩ := of_mem_edgesOf h
      exact ⟨e, List.mem_cons_of_mem _ he, h1, h2⟩

/-- What is looked at at an operation's turn is what the one order shows. -/
theorem looks_eq {es : List (List Nat)} {cos : List COp} {ps cs : List (Nat × Nat)} {vv : Nat → AV} {fr0 g f : AFr} {L : List Nat} {i : Nat} {c : COp} (h : DrawOk es cos ps cs) (hc : cos[i]? = some c)
    (hg : FrAt cos vv fr0 (· ∉ L) g) (hf : FrAt cos vv fr0 (· < i) f) (hi : i ∈ L) (hbits : ∀ e, Nat.testBit ((masks es []).getD i 0) e = true → e ∉ L)
    (hclosed : ∀ (d : Nat), d < cos.length → d ∉ L → ∀ e, Nat.testBit ((masks es []).getD d 0) e = true → e ∉ L) : ∀ t ∈ c.looks, g.get t = f.get t := by
  intro t ht
  have hin : ∀ {d : Nat} {b : COp}, cos[d]? = some b → d < cos.length := fun hb => (List.getElem?_eq_some_iff.1 hb).1
  have hes : ∀ {d : Nat}, d < cos.length → es[d]? = some (es[d]?.getD []) := fun {d} hd => by
    have : d < es.length := Nat.lt_of_lt_of_le hd h.len
    rw [List.getElem?_eq_getElem this]; rfl
  have cls : ∀ (d : Nat) (b : COp), cos[d]? = some b → b.dst = some t → d ≠ i → (d < i ∧ d ∉ L) ∨ (i < d ∧ d ∈ L) := by
    intro d b hb hbt hne
    have hr := h.reads i d c b hc hb
    unfold readsOk at hr
    simp only [Bool.or_eq_true] at hr
    rcases hr with ((hr | hr) | hr) | hr
    · exact absurd (Nat.eq_of_beq_eq_true hr).symm hne
    · exact .inl ⟨h.bit_lt i _ (hes (hin hc)) d hr, hbits d hr⟩
    · refine .inr ⟨h.bit_lt d _ (hes (hin hb)) i hr, ?_⟩
      by_cases hd : d ∈ L
      · exact hd
      · exact absurd hi (hclosed d (hin hb) hd i hr)
    · have := List.all_eq_true.1 hr t ht
      rw [dstIs_iff.2 hbt] at this
      cases this
  by_cases hx : ∃ d b, cos[d]? = some b ∧ b.dst = some t ∧ d < i ∧ d ∉ L
  · obtain ⟨d, b, hb, hbt, h1, h2⟩ := hx
    rw [hg.new d b t hb h2 hbt, hf.new d b t hb h1 hbt]
  · have no : ∀ (d : Nat) (b : COp), cos[d]? = some b → b.dst = some t → ¬ (d ∉ L) ∧ ¬ (d < i) := by
      intro d b hb hbt
      by_cases e : d = i
      · subst e
        exact ⟨fun hn => hn hi, Nat.lt_irrefl _⟩
      · rcases cls d b hb hbt e with h1 | h1
        · exact absurd ⟨d, b, hb, hbt, h1.1, h1.2⟩ hx
        · exact ⟨fun hn => hn h1.2, by omega⟩
    rw [hg.old t (fun d b hb hd hbt => (no d b hb hbt).1 hd), hf.old t (fun d b hb hd hbt => (no d b hb hbt).2 hd)]

theorem cat_pairwise {A C : List Nat} {i : Nat} (h : (A ++ i :: C).Pairwise (· < ·)) : (A ++ C).Pairwise (· < ·) ∧ (∀ x ∈ A, x < i) ∧ i ∉ A ++ C := by
  rw [List.pairwise_append] at h
  obtain ⟨h1, h2, h3⟩ := h
  rw [List.pairwise_cons] at h2
  refine ⟨List.pairwise_append.2 ⟨h1, h2.2, fun x hx y hy => h3 x hx y (List.mem_cons_of_mem _ hy)⟩, fun x hx => h3 x hx i List.mem_cons_self, fun hm => ?_⟩
  rcases List.mem_append.1 hm with hm | hm
  · exact absurd (h3 i hm i List.mem_cons_self) (Nat.lt_irrefl _)
  · exact absurd (h2.1 i hm) (Nat.lt_irrefl _)
end Go.Eng
