/-
  Loads, stores, new blocks of cells: carried out alike.
-/
import Derived.Test.YtiemcnndfhbidaaGreatDoorE9
import Derived.Laws.Cells
set_option linter.unusedSimpArgs false
set_option linter.unusedSectionVars false
namespace Go.Eng
open Go.RowKit (Below)
variable {P : Program} {B : Nat} {w0 w : World} {ρ : Pl} {S : St} {fr : AFr} {a : Act} {rid : Nat}

theorem readCells_spec : ∀ (cs : List (Option AV)) (off n : Nat) (l : List AV), readCells cs off n = some l → l.length = n ∧ off + n ≤ max cs.length off ∧ ∀ (i : Nat) (v : AV), l[i]? = some v → cs[off + i]? = some (some v)
  | cs, off, 0, l, h => by
    have : l = [] := by cases cs <;> cases off <;> simp_all [readCells]
    subst this
    simp
    omega
  | [], off, n + 1, l, h => by cases off <;> simp [readCells] at h
  | c :: cs, 0, n + 1, l, h => by
    simp only [readCells] at h
    split at h
    · cases h
    · rename_i v
      simp only [Option.map_eq_some_iff] at h
      obtain ⟨r, hr, rfl⟩ := h
      obtain ⟨h1, h2, h3⟩ := readCells_spec cs 0 n r hr
      refine ⟨by simp [h1], by simp; omega, fun i u hi => ?_⟩
      cases i with
      | zero => simpa using hi
      | succ i =>
        have := h3 i u (by simpa using hi)
        simpa [Nat.zero_add] using this
  | _ :: cs, o + 1, n + 1, l, h => by
    simp only [readCells] at h
    obtain ⟨h1, h2, h3⟩ := readCells_spec cs o (n + 1) l h
    refine ⟨h1, by simp; omega, fun i u hi => ?_⟩
    have := h3 i u hi
    rw [show o + 1 + i = (o + i) + 1 by omega]
    simpa using this
theorem setCellsAt_spec : ∀ (cs : List (Option AV)) (off : Nat) (vs : List AV) (cs' : List (Option AV)), setCellsAt cs off vs = some cs' →
    cs'.length = cs.length ∧ (vs ≠ [] → off + vs.length ≤ cs.length) ∧ (∀ v ∈ vs, v.one = true) ∧ ∀ i : Nat, cs'[i]? = if off ≤ i ∧ i < off + vs.length then some (vs[i - off]?) else cs[i]?
  | cs, off, [], cs', h => by
    have : cs' = cs := by cases cs <;> cases off <;> simp_all [setCellsAt]
    subst this
    refine ⟨rfl, fun h => absurd rfl h, by simp, fun i => ?_⟩
    rw [if_neg (by rw [List.length_nil]; omega)]
  | [], off, v :: vs, cs', h => by cases off <;> simp [setCellsAt] at h
  | c :: cs, 0, v :: vs, cs', h => by
    simp only [setCellsAt] at h
    split at h
    · rename_i ho
      simp only [Option.map_eq_some_iff] at h
      obtain ⟨r, hr, rfl⟩ := h
      obtain ⟨h1, h2, h3, h4⟩ := setCellsAt_spec cs 0 vs r hr
      refine ⟨by simp [h1], fun _ => ?_, ?_, fun i => ?_⟩
      · by_cases e : vs = []
        · subst e; simp
        · have := h2 e; simp; omega
      · intro u hu
        rcases List.mem_cons.1 hu with rfl | hu
        · exact ho
        · exact h3 u hu
      · cases i with
        | zero => simp
        | succ i =>
          have := h4 i
          simp only [List.getElem?_cons_succ, this]
          by_cases e : i < vs.length
          · rw [if_pos (by omega), if_pos (by simp; omega)]
            simp
          · rw [if_neg (by omega), if_neg (by simp; omega)]
    · cases h
  | c :: cs, o + 1, v :: vs, cs', h => by
    simp only [setCellsAt, Option.map_eq_some_iff] at h
    obtain ⟨r, hr, rfl⟩ := h
    obtain ⟨h1, h2, h3, h4⟩ := setCellsAt_spec cs o (v :: vs) r hr
    refine ⟨by simp [h1], fun e => ?_, h3, fun i => ?_⟩
    · have := h2 e; simp at this ⊢; omega
    · cases i with
      | zero => simp
      | succ i =>
        have := h4 i
        simp only [List.getElem?_cons_succ, this]
        by_cases e : o ≤ i ∧ i < o + (v :: vs).length
        · rw [if_pos e, if_pos (by omega)]
          congr 1
          rw [show i + 1 - (o + 1) = i - o by omega]
        · rw [if_neg e, if_neg (by omega)]

def arrSet (c : Array Value) (k : Nat) : List Value → Array Value
  | [] => c
  | v :: vs => arrSet (c.setIfInBounds k v) (k + 1) vs
theorem arrSet_size : ∀ (vs : List Value) (c : Array Value) (k : Nat), (arrSet c k vs).size = c.size
  | [], c, k => rfl
  | v :: vs, c, k => by simp [arrSet, arrSet_size vs]
theorem arrSet_get : ∀ (vs : List Value) (c : Array Value) (k j : Nat), k + vs.length ≤ c.size → (arrSet c k vs)[j]? = if k ≤ j ∧ j < k + vs.length then vs[j - k]? else c[j]?
  | [], c, k, j, h => by rw [if_neg (by rw [List.length_nil]; omega)]; rfl
  | v :: vs, c, k, j, h => by
    simp only [List.length_cons] at h
    rw [arrSet, arrSet_get vs _ _ _ (by simp; omega)]
    by_cases e : k + 1 ≤ j ∧ j < k + 1 + vs.length
    · rw [if_pos e, if_pos (by simp; omega), show j - k = (j - (k + 1)) + 1 by omega]
      simp
    · rw [if_neg e]
      by_cases ej : j = k
      · subst ej
        rw [if_pos (by simp)]
        simp [Array.getElem?_setIfInBounds_self, show j < c.size by omega]
      · rw [if_neg (by simp; omega), Array.getElem?_setIfInBounds_ne (Ne.symm ej)]
theorem cell_at {b o : Nat} {c : Array Value} {ty : TypeId} {f : Nat × Nat} (h : w.heap[b]? = some (.cells c ty f)) : w.cell? ⟨b, o, none⟩ = c[o]? := by
  simp [World.cell?, h]
theorem frozen_at {b o : Nat} {c : Array Value} {ty : TypeId} {lo hi : Nat} (h : w.heap[b]? = some (.cells c ty (lo, hi))) : w.frozen? ⟨b, o, none⟩ = (lo ≤ o && o < hi) := by
  simp [World.frozen?, h]
theorem setCell_at {b o : Nat} {c : Array Value} {ty : TypeId} {f : Nat × Nat} (h : w.heap[b]? = some (.cells c ty f)) (v : Value) : w.setCell ⟨b, o, none⟩ v = wset w b (.cells (c.setIfInBounds o v) ty f) := by
  unfold World.setCell wset
  congr 1
  apply Array.ext_getElem?
  intro i
  rw [Array.getElem?_modify]
  by_cases e : b = i
  · subst e
    have hlt : b < w.heap.size := by
      rcases Nat.lt_or_ge b w.heap.size with h' | h'
      · exact h'
      · simp [Array.getElem?_eq_none h'] at h
    rw [if_pos rfl, h, Array.getElem?_setIfInBounds_self_of_lt hlt]
    rfl
  · rw [if_neg e, Array.getElem?_setIfInBounds_ne e]
theorem wset_self {b : Nat} {o : Obj} (h : w.heap[b]? = some o) : wset w b o = w := by
  unfold wset
  have : w.heap.setIfInBounds b o = w.heap := by
    apply Array.ext_getElem?
    intro i
    by_cases e : b = i
    · subst e
      have hlt : b < w.heap.size := by
        rcases Nat.lt_or_ge b w.heap.size with h' | h'
        · exact h'
        · simp [Array.getElem?_eq_none h'] at h
      rw [Array.getElem?_setIfInBounds_self_of_lt hlt, h]
    · rw [Array.getElem?_setIfInBounds_ne e]
  rw [this]
theorem run_storeCells_blk {b o : Nat} {ty : TypeId} {lo hi : Nat} : ∀ (vs : List Value) (i : Nat) (c : Array Value) (w : World), w.heap[b]? = some (.cells c ty (lo, hi)) → o + i + vs.length ≤ c.size →
    (∀ j, o ≤ j → j < c.size → ¬ (lo ≤ j ∧ j < hi)) → (∀ v ∈ vs, v.oneCell' = true) → (storeCells ⟨b, o, none⟩ vs i).run P w = .ok () (wset w b (.cells (arrSet c (o + i) vs) ty (lo, hi)))
  | [], i, c, w, h, _, _, _ => by simp only [storeCells, Sem.run_pure, arrSet]; rw [wset_self h]
  | v :: vs, i, c, w, h, hl, hf, ho => by
    simp only [List.length_cons] at hl
    have hc : c[o + i]? = some c[o + i] := Array.getElem?_eq_getElem (by omega)
    have hfr : (decide (lo ≤ o + i) && decide (o + i < hi)) = false := by
      have := hf (o + i) (by omega) (by omega)
      simp only [Bool.and_eq_false_iff, decide_eq_false_iff_not]
      omega
    have h1 : (store (⟨b, o + i, none⟩ : Addr) v).run P w = .ok () (w.setCell ⟨b, o + i, none⟩ v) := by
      rw [run_store P w _ v _ (ho v List.mem_cons_self), cell_at h, hc]
      simp only [frozen_at h, hfr, Bool.false_eq_true, if_false]
    have hw : (wset w b (.cells (c.setIfInBounds (o + i) v) ty (lo, hi))).heap[b]? = some (.cells (c.setIfInBounds (o + i) v) ty (lo, hi)) := by
      have hlt : b < w.heap.size := by
        rcases Nat.lt_or_ge b w.heap.size with h' | h'
        · exact h'
        · simp [Array.getElem?_eq_none h'] at h
      rw [wset_get, if_pos rfl, if_pos hlt]
    have ih := run_storeCells_blk (b := b) (o := o) vs (i + 1) (c.setIfInBounds (o + i) v) (wset w b (.cells (c.setIfInBounds (o + i) v) ty (lo, hi))) hw (by simp; omega) (by simpa using hf) (fun u hu => ho u (List.mem_cons_of_mem _ hu))
    simp only [storeCells, Sem.run_bind, add_eq, h1, Result.andThen, setCell_at h, ih, wset_wset, arrSet, Nat.add_assoc]

/-- The cells of an abstract block, as values. -/
theorem row_values {r : Real} {id off n : Nat} {l : List AV} (hR : R B w0 ρ S w) (hr : ρ id = some r) (h : rowAt S id off n = some l) :
    ∃ xs, VL ρ l xs ∧ xs.length = n ∧ ∀ j v, xs[j]? = some v → w.cell? ⟨r.b, r.sh + off + j, none⟩ = some v := by
  unfold rowAt at h
  split at h
  · rename_i cs root pos wr al tl hg
    obtain ⟨c, ty, lo, hi, hh, ht, hs, hf, hc⟩ := hR.blk id _ r hg hr
    obtain ⟨h1, h2, h3⟩ := readCells_spec _ _ _ _ h
    have key : ∀ (l : List AV) (k : Nat), (∀ i v, l[i]? = some v → cs[off + k + i]? = some (some v)) → ∃ xs, VL ρ l xs ∧ xs.length = l.length ∧ ∀ j v, xs[j]? = some v → c[r.sh + off + k + j]? = some v := by
      intro l
      induction l with
      | nil => intro k _; exact ⟨[], .nil, rfl, by simp⟩
      | cons x l ih =>
        intro k hl
        obtain ⟨y, hy, hv⟩ := hc (off + k) x (by simpa using hl 0 x rfl)
        obtain ⟨ys, g1, g2, g3⟩ := ih (k + 1) (fun i v hi => by have := hl (i + 1) v (by simpa using hi); rwa [show off + k + (i + 1) = off + (k + 1) + i by omega] at this)
        refine ⟨y :: ys, .cons hv g1, by simp [g2], fun j v hj => ?_⟩
        cases j with
        | zero =>
          simp only [List.getElem?_cons_zero, Option.some.injEq] at hj
          subst hj
          rw [← hy]; congr 1; omega
        | succ j =>
          have := g3 j v (by simpa using hj)
          rw [← this]; congr 1; omega
    obtain ⟨xs, g1, g2, g3⟩ := key l 0 (fun i v hi => by simpa using h3 i v hi)
    refine ⟨xs, g1, g2.trans h1, fun j v hj => ?_⟩
    rw [cell_at hh]
    simpa using g3 j v hj
  · cases h

theorem R.congr {S' : St} (h : R B w0 ρ S w) (hg : ∀ id, S'.get id = S.get id) (hn : S'.next = S.next) : R B w0 ρ S' w :=
  ⟨⟨fun i c ro p w a hi j c' p' w' a' t' hj => h.ok.tail i c ro p w a (hg i ▸ hi) j c' p' w' a' t' (hg j ▸ hj), fun i c ro p w a hi j c' p' w' a' hj => h.ok.uniq i c ro p w a (hg i ▸ hi) j c' p' w' a' (hg j ▸ hj), fun i c ro p w a hi j c' p' w' a' t' hj => h.ok.alone i c ro p w a (hg i ▸ hi) j c' p' w' a' t' (hg j ▸ hj), fun i c ro p w a t hi => hn ▸ h.ok.root i c ro p w a t (hg i ▸ hi)⟩,
    h.below, h.base, fun id r hr => hn ▸ h.dom id r hr, fun id k r hk hr => h.blk id k r (hg id ▸ hk) hr, fun id k r hk hr => h.fresh id k r (hg id ▸ hk) hr,
    fun i p r j q r' hi hr hj hr' => h.sep i p r j q r' (hg i ▸ hi) hr (hg j ▸ hj) hr'⟩
theorem Fresh.new {q : Nat} {k : Blk} {r : Real} (hf : Fresh ρ S q) (hq : q ≠ rid) (hk : k.newAs rid) : Fresh (upd ρ rid r) (S.put rid k) q := by
  refine ⟨hf.lt, by rw [upd_ne _ _ hq]; exact hf.un, ?_⟩
  intro j cs pos wr al tl hj
  rw [St.get_put] at hj
  by_cases e : j = rid
  · rw [if_pos e] at hj
    obtain rfl := Option.some.inj hj
    exact absurd hk.1 hq
  · rw [if_neg e] at hj
    exact hf.rt j cs pos wr al tl hj
/-- A new block. -/
theorem step_new (hR : R B w0 ρ S w) (hf : Fresh ρ S rid) {k : Blk} {o : Obj} {tot : Nat} (hn : k.newAs rid)
    (hb : BlkRel (upd ρ rid ⟨w.heap.size, 0, tot⟩) k ⟨w.heap.size, 0, tot⟩ (w.alloc o)) :
    Step B w0 ρ S rid (upd ρ rid ⟨w.heap.size, 0, tot⟩) (S.put rid k) (w.alloc o) :=
  ⟨sub_upd _ hf.un, hR.new hf hn hb, rfl, fun _ hq hfq => hfq.new hq hn⟩
theorem row_rel {ρ' : Pl} {l : List AV} {xs : List Value} (hl : VL ρ l xs) (hs : Sub ρ ρ') (ty : TypeId) {root pos : Nat} {wr al tl : Bool} :
    BlkRel ρ' (.cells (l.map some) root pos wr al tl) ⟨w.heap.size, 0, xs.length⟩ (w.alloc (.cells xs.toArray ty)) := by
  refine ⟨xs.toArray, ty, 0, 0, by rw [alloc_get, if_pos rfl], by simp, by simp [hl.length], fun i _ _ => by omega, fun i v hi => ?_⟩
  rw [List.getElem?_map, Option.map_eq_some_iff] at hi
  obtain ⟨v', hv', e⟩ := hi
  obtain rfl := Option.some.inj e
  obtain ⟨x, hx, hvx⟩ := hl.get hv'
  exact ⟨x, by simpa using hx, hvx.mono hs⟩
theorem step_row (hR : R B w0 ρ S w) (hf : Fresh ρ S rid) {l : List AV} {xs : List Value} (hl : VL ρ l xs) (ty : TypeId) :
    Step B w0 ρ S rid (upd ρ rid ⟨w.heap.size, 0, xs.length⟩) (newRow S rid l) (w.alloc (.cells xs.toArray ty)) :=
  step_new hR hf ⟨rfl, rfl, rfl⟩ (row_rel hl (sub_upd _ hf.un) ty)
theorem run_newRow (ty : TypeId) (xs : Array Value) : (Go.newRow ty xs).run P w = .ok ⟨w.heap.size, 0, none⟩ (w.alloc (.cells xs ty)) := by
  simp [Go.newRow]
theorem zero_sound {t : TypeId} {z : List AV} (h : zeroT P t = some z) : ∃ v, (zeroValue t).run P w = .ok v w ∧ VL ρ z v.cells.toList := by
  unfold zeroT at h
  split at h
  · rename_i i hi
    split at h
    · rename_i v hv
      exact ⟨v, by simp [zeroValue, typeInfo, hi, hv], ofVals_sound h⟩
    · cases h
  · cases h
theorem sameCells_eq : ∀ {cs : List (Option AV)} {z : List AV}, sameCells cs z = true → cs = z.map some
  | [], [], _ => rfl
  | [], _ :: _, h => by simp [sameCells] at h
  | none :: _, _, h => by simp [sameCells] at h
  | some _ :: _, [], h => by simp [sameCells] at h
  | some a :: x, b :: y, h => by
    simp only [sameCells] at h
    split at h
    · rename_i e
      rw [AV.same_eq e, sameCells_eq h]
      rfl
    · cases h
/-- A block that lies there already, as the operation makes it. -/
theorem step_there (hR : R B w0 ρ S w) (hf : Fresh ρ S rid) {k : Blk} (hg : S.get rid = some k) {o : Obj} {tot : Nat} (hn : k.newAs rid)
    (hb : BlkRel (upd ρ rid ⟨w.heap.size, 0, tot⟩) k ⟨w.heap.size, 0, tot⟩ (w.alloc o)) :
    Step B w0 ρ S rid (upd ρ rid ⟨w.heap.size, 0, tot⟩) S (w.alloc o) := by
  have h := step_new hR hf hn hb
  have e : ∀ id, S.get id = (S.put rid k).get id := fun id => by
    rw [St.get_put]
    split
    · rename_i e; subst e; exact hg
    · rfl
  refine ⟨h.sub, h.r.congr e rfl, rfl, fun q hq hfq => ?_⟩
  have := h.fr q hq hfq
  exact ⟨hfq.lt, this.un, hfq.rt⟩

theorem step_lay (hR : R B w0 ρ S w) (hf : Fresh ρ S rid) {l : List AV} {xs : List Value} {S' : St} (h : layRow S rid l = some S') (hl : VL ρ l xs) (ty : TypeId) :
    Step B w0 ρ S rid (upd ρ rid ⟨w.heap.size, 0, xs.length⟩) S' (w.alloc (.cells xs.toArray ty)) := by
  unfold layRow at h
  split at h
  · obtain rfl := Option.some.inj h
    exact step_row hR hf hl ty
  · rename_i ds root hg
    split at h
    · rename_i e1 e2
      obtain rfl := Option.some.inj h
      obtain rfl := Nat.eq_of_beq_eq_true e1
      rw [sameCells_eq e2] at hg
      exact step_there hR hf hg ⟨rfl, rfl, rfl⟩ (row_rel hl (sub_upd _ hf.un) ty)
    · cases h
  · cases h

theorem write_sound (hR : R B w0 ρ S w) {id off : Nat} {r : Real} {vs : List AV} {xs : List Value} {S' : St} (hr : ρ id = some r) (h : writeAt S id off vs = some S') (hl : VL ρ vs xs) :
    ∃ w', (storeCells ⟨r.b, r.sh + off, none⟩ xs).run P w = .ok () w' ∧ Step B w0 ρ S rid ρ S' w' := by
  unfold writeAt at h
  split at h
  · rename_i cs root pos tail hg
    simp only [Option.map_eq_some_iff] at h
    obtain ⟨cs', hcs, rfl⟩ := h
    obtain ⟨c, ty, lo, hi, hh, ht, hs, hf, hc⟩ := hR.blk id _ r hg hr
    obtain ⟨h1, h2, h3, h4⟩ := setCellsAt_spec _ _ _ _ hcs
    have hlen := hl.length
    have hone : ∀ v ∈ xs, v.oneCell' = true := by
      have : ∀ {vs : List AV} {xs : List Value}, VL ρ vs xs → (∀ v ∈ vs, v.one = true) → ∀ v ∈ xs, v.oneCell' = true := by
        intro vs xs h
        induction xs generalizing vs with
        | nil => simp
        | cons y ys ih =>
          cases h
          rename_i b bs hb hbs
          intro ho v hv
          rcases List.mem_cons.1 hv with rfl | hv
          · exact hb.one_oneCell (ho b List.mem_cons_self)
          · exact ih hbs (fun u hu => ho u (List.mem_cons_of_mem _ hu)) v hv
      exact this hl h3
    by_cases hnil : vs = []
    · subst hnil
      cases hl
      refine ⟨w, by simp [storeCells], ?_⟩
      have hcc : cs' = cs := by
        apply List.ext_getElem?
        intro i
        rw [h4 i, if_neg (by rw [List.length_nil]; omega)]
      subst hcc
      have e : ∀ j, (S.put id (.cells cs' root pos true true tail)).get j = S.get j := fun j => by
        rw [St.get_put]
        split
        · rename_i e; subst e; exact hg.symm
        · rfl
      exact ⟨.refl _, hR.congr e rfl, rfl, fun q _ hq => ⟨hq.lt, hq.un, fun j c p w a t hj => hq.rt j c p w a t (e j ▸ hj)⟩⟩
    · have hb := h2 hnil
      refine ⟨_, run_storeCells_blk (P := P) (b := r.b) (o := r.sh + off) xs 0 c w hh (by omega) (fun j hj hj' => hf j (by omega) hj') hone, ?_⟩
      refine ⟨.refl _, hR.set hg hr rfl (hR.solo hg hr) (hR.ok.cells hg h1) ?_, rfl, fun q _ hq => ⟨hq.lt, hq.un, ?_⟩⟩
      · have hblt : r.b < w.heap.size := (hR.dom id r hr).2
        refine ⟨arrSet c (r.sh + off + 0) xs, ty, lo, hi, by rw [wset_get, if_pos rfl, if_pos hblt], by rw [arrSet_size]; exact ht, by rw [arrSet_size, h1]; exact hs, by rw [arrSet_size]; exact hf, ?_⟩
        intro i v hi'
        rw [h4 i] at hi'
        by_cases e : off ≤ i ∧ i < off + vs.length
        · rw [if_pos e] at hi'
          have hi' := Option.some.inj hi'
          obtain ⟨x, hx, hvx⟩ := hl.get hi'
          refine ⟨x, ?_, hvx⟩
          rw [arrSet_get xs c _ _ (by omega), if_pos (by omega), ← hx]
          congr 1; omega
        · rw [if_neg e] at hi'
          obtain ⟨x, hx, hvx⟩ := hc i v hi'
          refine ⟨x, ?_, hvx⟩
          rw [arrSet_get xs c _ _ (by omega), if_neg (by omega)]
          exact hx
      · intro j c' p w' a' t' hj
        rw [St.get_put] at hj
        by_cases e : j = id
        · rw [if_pos e] at hj
          have := Option.some.inj hj
          simp only [Blk.cells.injEq] at this
          obtain ⟨-, rfl, -⟩ := this
          subst e
          exact hq.rt j _ _ _ _ _ hg
        · rw [if_neg e] at hj
          exact hq.rt j c' p w' a' t' hj
  · cases h

section
variable {o : Oper} {x y : Operand} {p q : Opd} (hF : FR ρ fr a) (hR : R B w0 ρ S w)
include hF hR

theorem sound_load {t : TypeId} {g : Bool} {n : Nat} {v : AV} {S' : St} (ho : o.op = .load t x) (hg : aggT P t = some g) (hn : sizeT P t = some n) (hx : cOpd x = some p)
    (h : aop (.load g n p) fr.ev rid S = some (v, S')) : Good P B w0 ρ S rid a w o v S' := by
  have hv := hF.ev hx
  simp only [aop] at h
  split at h
  · rename_i id off e
    rw [e] at hv
    generalize hvx : a.eval x = vx at hv
    cases hv
    rename_i r hr
    have hex : ∀ u, (loadVar t ⟨r.b, r.sh + off, none⟩).run P w = .ok u w → (execOp a.eval o).run P w = .ok (.value u) w := by
      intro u hu
      simp only [execOp, ho, hvx]
      refine run_v ?_
      simp [Instr.loadAt, Instr.sureAddr, hu]
    cases g with
    | true =>
      simp only [Option.map_eq_some_iff, Prod.mk.injEq] at h
      obtain ⟨cs, hcs, rfl, rfl⟩ := h
      obtain ⟨xs, h1, h2, h3⟩ := row_values hR hr hcs
      refine good_same hR (.agg h1) (hex _ ?_)
      have := run_loadCells_list (P := P) w ⟨r.b, r.sh + off, none⟩ xs (fun j v hj => by rw [add_eq]; exact h3 j v hj)
      rw [h2] at this
      simp [loadVar, run_aggT hg, run_sizeT hn, this]
    | false =>
      simp only [] at h
      split at h
      · rename_i u hu
        obtain ⟨rfl, rfl⟩ := Prod.mk.inj (Option.some.inj h)
        obtain ⟨xs, h1, h2, h3⟩ := row_values hR hr hu
        cases h1
        rename_i z zs hz hzs
        refine good_same hR hz (hex _ ?_)
        have := h3 0 z rfl
        rw [Nat.add_zero] at this
        simp [loadVar, run_aggT hg, this]
      · cases h
  · cases h

theorem sound_store {t : TypeId} {n : Nat} {v : AV} {S' : St} (ho : o.op = .store t x y) (hn : sizeT P t = some n) (hx : cOpd x = some p) (hy : cOpd y = some q)
    (h : aop (.store n p q) fr.ev rid S = some (v, S')) : Good P B w0 ρ S rid a w o v S' := by
  have hv := hF.ev hx
  have hw := hF.ev hy
  simp only [aop] at h
  split at h
  · rename_i id off e
    split at h
    · rename_i hl
      have hl := Nat.eq_of_beq_eq_true hl
      simp only [Option.map_eq_some_iff, Prod.mk.injEq] at h
      obtain ⟨S1, hS1, rfl, rfl⟩ := h
      rw [e] at hv
      generalize hvx : a.eval x = vx at hv
      cases hv
      rename_i r hr
      obtain ⟨w', hrun, hst⟩ := write_sound (P := P) (rid := rid) hR hr hS1 hw.cells
      refine ⟨ρ, undef, w', hst, .undef, .inr ⟨?_, rfl⟩⟩
      simp only [execOp, ho, hvx]
      refine run_u ?_
      have hsz : (a.eval y).cells.size = n := by rw [← hl, hw.cells.length]; simp
      simp only [Instr.storeAt, Instr.sureAddr, pure_bind, storeVar, Sem.run_bind, run_sizeT hn, Result.andThen, hsz, ne_eq, not_true_eq_false, if_false]
      exact hrun
    · cases h
  · cases h

theorem sound_alloc {t : TypeId} {z : List AV} {v : AV} {S' : St} (hf : Fresh ρ S rid) (ho : o.op = .alloc t) (hz : zeroT P t = some z)
    (h : aop (.alloc z) fr.ev rid S = some (v, S')) : Good P B w0 ρ S rid a w o v S' := by
  obtain ⟨zv, hzr, hzl⟩ := zero_sound (P := P) (w := w) (ρ := ρ) hz
  have hrun : (execOp a.eval o).run P w = .ok (.value (.pointer (some ⟨w.heap.size, 0, none⟩))) (w.alloc (.cells zv.cells t)) := by
    simp only [execOp, ho]
    refine run_v ?_
    simp [Instr.alloc, hzr, newVar, run_newRow]
  simp only [aop] at h
  split at h
  · rename_i hg
    obtain ⟨rfl, rfl⟩ := Prod.mk.inj (Option.some.inj h)
    have := step_row hR hf hzl t
    simp only [Array.toArray_toList] at this
    exact ⟨_, _, _, this, .ptr (r := ⟨w.heap.size, 0, _⟩) (upd_self _ _ _), .inl hrun⟩
  · rename_i cs root hg
    split at h
    · rename_i e1 e2
      obtain ⟨rfl, rfl⟩ := Prod.mk.inj (Option.some.inj h)
      obtain rfl := Nat.eq_of_beq_eq_true e1
      have := row_rel (w := w) (ρ' := upd ρ root ⟨w.heap.size, 0, zv.cells.toList.length⟩) hzl (sub_upd _ hf.un) t (root := root) (pos := 0) (wr := true) (al := true) (tl := true)
      rw [sameCells_eq e2] at hg
      have := step_there hR hf hg ⟨rfl, rfl, rfl⟩ this
      simp only [Array.toArray_toList] at this
      exact ⟨_, _, _, this, .ptr (r := ⟨w.heap.size, 0, _⟩) (upd_self _ _ _), .inl hrun⟩
    · cases h
  · cases h
theorem sound_box {t : TypeId} {v : AV} {S' : St} (hf : Fresh ρ S rid) (ho : o.op = .box t x) (hx : cOpd x = some p)
    (h : aop (.box p) fr.ev rid S = some (v, S')) : Good P B w0 ρ S rid a w o v S' := by
  obtain ⟨rfl, rfl⟩ := Prod.mk.inj (Option.some.inj h)
  have hv := hF.ev hx
  have := step_row hR hf hv.cells t
  simp only [Array.toArray_toList] at this
  refine ⟨_, _, _, this, .ptr (r := ⟨w.heap.size, 0, _⟩) (upd_self _ _ _), .inl ?_⟩
  simp only [execOp, ho]
  refine run_v ?_
  simp [Instr.box, newVar, run_newRow]
end
end Go.Eng
