/-
  append: carried out alike.
-/
import Derived.Test.YtiemcnndfhbidaaGreatDoorE11
import Derived.Laws.Append
set_option linter.unusedSimpArgs false
namespace Go.Eng
open Go.RowKit (Below)
variable {P : Program} {B : Nat} {w0 w : World} {ρ : Pl} {S : St} {fr : AFr} {a : Act} {rid : Nat}

/-- Two states of a block that has been appended to, and its successor. -/
def appSt (S : St) (id rid : Nat) (cs news : List (Option AV)) (root pos off : Nat) (wr : Bool) : St :=
  (S.put id (.cells cs root pos wr false false)).put rid (.cells news root (pos + off) true false true)
theorem appSt_get {S : St} {id rid : Nat} {cs news : List (Option AV)} {root pos off : Nat} {wr : Bool} (j : Nat) :
    (appSt S id rid cs news root pos off wr).get j = if j = rid then some (.cells news root (pos + off) true false true) else if j = id then some (.cells cs root pos wr false false) else S.get j := by
  unfold appSt
  rw [St.get_put, St.get_put]
theorem appSt_ok {id : Nat} {cs news : List (Option AV)} {root pos off : Nat} {wr al : Bool} (h : Ok S) (hg : S.get id = some (.cells cs root pos wr al true)) (hne : rid ≠ id)
    (hl : cs.length ≤ off + news.length) : Ok (appSt S id rid cs news root pos off wr) := by
  have inv : ∀ j c ro p w' a' t', (appSt S id rid cs news root pos off wr).get j = some (.cells c ro p w' a' t') →
      (j = rid ∧ c = news ∧ ro = root ∧ p = pos + off ∧ a' = false ∧ t' = true) ∨ (j = id ∧ c = cs ∧ ro = root ∧ p = pos ∧ a' = false ∧ t' = false) ∨ (j ≠ rid ∧ j ≠ id ∧ S.get j = some (.cells c ro p w' a' t')) := by
    intro j c ro p w' a' t' hj
    rw [appSt_get] at hj
    split at hj
    · rename_i e
      have := Option.some.inj hj
      simp only [Blk.cells.injEq] at this
      obtain ⟨rfl, rfl, rfl, rfl, rfl, rfl⟩ := this
      exact .inl ⟨e, rfl, rfl, rfl, rfl, rfl⟩
    · rename_i e
      split at hj
      · rename_i e'
        have := Option.some.inj hj
        simp only [Blk.cells.injEq] at this
        obtain ⟨rfl, rfl, rfl, rfl, rfl, rfl⟩ := this
        exact .inr (.inl ⟨e', rfl, rfl, rfl, rfl, rfl⟩)
      · rename_i e'
        exact .inr (.inr ⟨e, e', hj⟩)
  constructor
  · intro i c ro p w' a' hi j c' p' w'' a'' t'' hj
    rcases inv _ _ _ _ _ _ _ hi with ⟨rfl, rfl, rfl, rfl, -, -⟩ | ⟨-, -, -, -, -, h0⟩ | ⟨n1, n2, hi'⟩
    · rcases inv _ _ _ _ _ _ _ hj with ⟨rfl, rfl, -, rfl, -, -⟩ | ⟨rfl, rfl, -, rfl, -, -⟩ | ⟨m1, m2, hj'⟩
      · exact Nat.le_refl _
      · omega
      · have := h.tail id cs ro pos wr al hg j c' p' w'' a'' t'' hj'
        omega
    · cases h0
    · rcases inv _ _ _ _ _ _ _ hj with ⟨rfl, rfl, rfl, rfl, -, -⟩ | ⟨rfl, rfl, rfl, rfl, -, -⟩ | ⟨m1, m2, hj'⟩
      · exact absurd (h.uniq id cs ro pos wr al hg i c p w' a' hi') n2
      · exact absurd (h.uniq j c' ro p' wr al hg i c p w' a' hi') n2
      · exact h.tail i c ro p w' a' hi' j c' p' w'' a'' t'' hj'
  · intro i c ro p w' a' hi j c' p' w'' a'' hj
    rcases inv _ _ _ _ _ _ _ hi with ⟨rfl, rfl, rfl, rfl, -, -⟩ | ⟨-, -, -, -, -, h0⟩ | ⟨n1, n2, hi'⟩
    · rcases inv _ _ _ _ _ _ _ hj with ⟨rfl, -⟩ | ⟨-, -, -, -, -, h0⟩ | ⟨m1, m2, hj'⟩
      · rfl
      · cases h0
      · exact absurd (h.uniq id cs ro pos wr al hg j c' p' w'' a'' hj') m2
    · cases h0
    · rcases inv _ _ _ _ _ _ _ hj with ⟨rfl, rfl, rfl, rfl, -, -⟩ | ⟨-, -, -, -, -, h0⟩ | ⟨m1, m2, hj'⟩
      · exact absurd (h.uniq id cs ro pos wr al hg i c p w' a' hi') n2
      · cases h0
      · exact h.uniq i c ro p w' a' hi' j c' p' w'' a'' hj'
  · intro i c ro p w' t' hi j c' p' w'' a'' t'' hj
    rcases inv _ _ _ _ _ _ _ hi with ⟨-, -, -, -, h0, -⟩ | ⟨-, -, -, -, h0, -⟩ | ⟨n1, n2, hi'⟩
    · cases h0
    · cases h0
    · rcases inv _ _ _ _ _ _ _ hj with ⟨rfl, rfl, rfl, rfl, -, -⟩ | ⟨rfl, rfl, rfl, rfl, -, -⟩ | ⟨m1, m2, hj'⟩
      · exact absurd (h.alone i c ro p w' t' hi' id cs pos wr al true hg).symm n2
      · exact absurd (h.alone i c ro p w' t' hi' j c' p' wr al true hg).symm n2
      · exact h.alone i c ro p w' t' hi' j c' p' w'' a'' t'' hj'
  · intro i c ro p w' a' t' hi
    show ro < S.next
    rcases inv _ _ _ _ _ _ _ hi with ⟨rfl, rfl, rfl, rfl, -, -⟩ | ⟨rfl, rfl, rfl, rfl, -, -⟩ | ⟨n1, n2, hi'⟩
    · exact h.root _ _ _ _ _ _ _ hg
    · exact h.root _ _ _ _ _ _ _ hg
    · exact h.root _ _ _ _ _ _ _ hi'
theorem appSt_fresh {id : Nat} {cs news : List (Option AV)} {root pos off : Nat} {wr al : Bool} {r : Real} {q : Nat} (hg : S.get id = some (.cells cs root pos wr al true)) (hid : ρ id ≠ none) (hq : q ≠ rid) (hf : Fresh ρ S q) :
    Fresh (upd ρ rid r) (appSt S id rid cs news root pos off wr) q := by
  refine ⟨hf.lt, by rw [upd_ne _ _ hq]; exact hf.un, ?_⟩
  have hroot : root ≠ q := by
    rintro rfl
    obtain rfl := hf.rt id _ _ _ _ _ hg
    exact hid hf.un
  intro j c p w' a' t' hj
  rw [appSt_get] at hj
  split at hj
  · have := Option.some.inj hj
    simp only [Blk.cells.injEq] at this
    exact absurd this.2.1 hroot
  · split at hj
    · have := Option.some.inj hj
      simp only [Blk.cells.injEq] at this
      exact absurd this.2.1 hroot
    · exact hf.rt j c p w' a' t' hj

theorem getElem?_append_get {xs ys : List Value} {i : Nat} {v : Value} (h : xs[i]? = some v) : (xs ++ ys)[i]? = some v := by
  rw [List.getElem?_append_left]
  · exact h
  · exact (List.getElem?_eq_some_iff.1 h).1

/-- A new block of cells, of which the first ones are known. -/
theorem row_rel' {ρ' : Pl} {l : List AV} {xs rest : List Value} (hl : VL ρ l xs) (hs : Sub ρ ρ') (ty : TypeId) {root pos : Nat} {wr al tl : Bool} :
    BlkRel ρ' (.cells (l.map some) root pos wr al tl) ⟨w.heap.size, 0, (xs ++ rest).length⟩ (w.alloc (.cells (xs ++ rest).toArray ty)) := by
  refine ⟨(xs ++ rest).toArray, ty, 0, 0, by rw [alloc_get, if_pos rfl], by simp, by simp [hl.length], fun i _ _ => by omega, fun i v hi => ?_⟩
  rw [List.getElem?_map, Option.map_eq_some_iff] at hi
  obtain ⟨v', hv', e⟩ := hi
  obtain rfl := Option.some.inj e
  obtain ⟨x, hx, hvx⟩ := hl.get hv'
  refine ⟨x, ?_, hvx.mono hs⟩
  have := getElem?_append_get (ys := rest) hx
  simpa using this

theorem read_at {id off n : Nat} {l : List AV} {cs : List (Option AV)} {root pos : Nat} {wr al tl : Bool} (hg : S.get id = some (.cells cs root pos wr al tl)) (h : readCells cs off n = some l) : rowAt S id off n = some l := by
  simp [rowAt, hg, h]

theorem VL.get' {as : List AV} {vs : List Value} (h : VL ρ as vs) {i : Nat} {a : AV} (ha : as[i]? = some a) : ∃ v, vs[i]? = some v ∧ V ρ a v := h.get ha

/-- Into the room behind: the block is the same. -/
theorem step_place {id off len sz : Nat} {cs : List (Option AV)} {root pos : Nat} {al : Bool} {r : Real} {old new : List AV} {ys : List Value} {c : Nat} (hR : R B w0 ρ S w) (hf : Fresh ρ S rid)
    (hg : S.get id = some (.cells cs root pos true al true)) (hr : ρ id = some r) (ho : readCells cs off (len * sz) = some old) (he : off + len * sz = cs.length) (hn : VL ρ new ys) (hone : ∀ v ∈ new, v.one = true)
    (hfit : r.sh + off + c * sz ≤ r.tot) (hroom : len * sz + ys.length ≤ c * sz) :
    ∃ w', (storeCells ⟨r.b, r.sh + off + len * sz, none⟩ ys).run P w = .ok () w' ∧
      Step B w0 ρ S rid (upd ρ rid ⟨r.b, r.sh + off, r.tot⟩) (appSt S id rid cs ((old ++ new).map some) root pos off true) w' := by
  have hne : rid ≠ id := by rintro rfl; rw [hf.un] at hr; cases hr
  obtain ⟨cc, ty, lo, hi, hh, ht, hs, hfz, hc⟩ := hR.blk id _ r hg hr
  obtain ⟨h1, h2, h3⟩ := readCells_spec _ _ _ _ ho
  have hlen := hn.length
  have hblt : r.b < w.heap.size := (hR.dom id r hr).2
  have hB := hR.fresh id _ r hg hr rfl
  have hsub := sub_upd (ρ := ρ) ⟨r.b, r.sh + off, r.tot⟩ hf.un
  refine ⟨_, run_storeCells_blk (P := P) (b := r.b) (o := r.sh + off + len * sz) ys 0 cc w hh (by omega) (fun j hj hj' => hfz j (by omega) hj') (oneCells hn hone), ?_⟩
  have hnew : (old ++ new).length = len * sz + ys.length := by rw [List.length_append, h1, hlen]
  have hget : ∀ j, (arrSet cc (r.sh + off + len * sz + 0) ys)[j]? = if r.sh + off + len * sz ≤ j ∧ j < r.sh + off + len * sz + ys.length then ys[j - (r.sh + off + len * sz)]? else cc[j]? := by
    intro j
    rw [arrSet_get ys cc _ _ (by omega)]
    rfl
  refine ⟨hsub, ⟨appSt_ok hR.ok hg hne (by rw [List.length_map, hnew]; omega), wset_below hR.below hB _, by rw [wset_size]; exact hR.base, ?_, ?_, ?_, ?_⟩, rfl, fun q hq hfq => appSt_fresh hg (by rw [hr]; simp) hq hfq⟩
  · intro j r' hj
    rw [wset_size]
    by_cases e : j = rid
    · subst e
      rw [upd_self] at hj
      obtain rfl := Option.some.inj hj
      exact ⟨hf.lt, hblt⟩
    · rw [upd_ne _ _ e] at hj
      exact hR.dom j r' hj
  · intro j k r' hj hr'
    rw [appSt_get] at hj
    by_cases e : j = rid
    · subst e
      rw [if_pos rfl] at hj
      obtain rfl := Option.some.inj hj
      rw [upd_self] at hr'
      obtain rfl := Option.some.inj hr'
      refine ⟨arrSet cc (r.sh + off + len * sz + 0) ys, ty, lo, hi, by rw [wset_get, if_pos rfl, if_pos hblt], by rw [arrSet_size]; exact ht, by rw [arrSet_size, List.length_map, hnew]; show r.sh + off + (len * sz + ys.length) ≤ cc.size; omega,
        fun i hi' hi'' => hfz i (by show r.sh ≤ i; have : r.sh + off ≤ i := hi'; omega) (by rw [arrSet_size] at hi''; exact hi''), ?_⟩
      intro i v hi'
      rw [List.getElem?_map, Option.map_eq_some_iff] at hi'
      obtain ⟨v', hv', e⟩ := hi'
      obtain rfl := Option.some.inj e
      show ∃ x, (arrSet cc (r.sh + off + len * sz + 0) ys)[r.sh + off + i]? = some x ∧ _
      rw [hget]
      rcases Nat.lt_or_ge i (len * sz) with hlt | hge
      · rw [List.getElem?_append_left (by rw [h1]; exact hlt)] at hv'
        obtain ⟨x, hx, hvx⟩ := hc _ _ (h3 i v' hv')
        exact ⟨x, by rw [if_neg (by omega), Nat.add_assoc]; exact hx, hvx.mono hsub⟩
      · rw [List.getElem?_append_right (by rw [h1]; exact hge), h1] at hv'
        obtain ⟨x, hx, hvx⟩ := hn.get hv'
        have hxl := (List.getElem?_eq_some_iff.1 hx).1
        exact ⟨x, by rw [if_pos (by omega)]; rw [← hx]; congr 1; omega, hvx.mono hsub⟩
    · rw [if_neg e] at hj
      rw [upd_ne _ _ e] at hr'
      have keep : ∀ c' ro p w' a' t', S.get j = some (.cells c' ro p w' a' t') → (r'.b = r.b → r'.sh + c'.length ≤ r.sh + cs.length) → ∀ (c'' : List (Option AV)) ro2 p2 w2 a2 t2, c'' = c' → BlkRel (upd ρ rid ⟨r.b, r.sh + off, r.tot⟩) (.cells c'' ro2 p2 w2 a2 t2) r' (wset w r.b (.cells (arrSet cc (r.sh + off + len * sz + 0) ys) ty (lo, hi))) := by
        intro c' ro p w' a' t' hj' hle c'' ro2 p2 w2 a2 t2 e2
        subst e2
        obtain ⟨d, ty', lo', hi', g1, g2, g3, g4, g5⟩ := hR.blk j _ r' hj' hr'
        by_cases eb : r'.b = r.b
        · rw [eb, hh] at g1
          obtain ⟨rfl, rfl, rfl, rfl⟩ : cc = d ∧ ty = ty' ∧ lo = lo' ∧ hi = hi' := by
            have := Option.some.inj g1
            simp only [Obj.cells.injEq, Prod.mk.injEq] at this
            exact ⟨this.1, this.2.1, this.2.2.1, this.2.2.2⟩
          refine ⟨arrSet cc (r.sh + off + len * sz + 0) ys, ty, lo, hi, by rw [wset_get, eb, if_pos rfl, if_pos hblt], by rw [arrSet_size]; exact g2, by rw [arrSet_size]; exact g3, by rw [arrSet_size]; exact g4, ?_⟩
          intro i v hi''
          obtain ⟨x, hx, hvx⟩ := g5 i v hi''
          have hil := (List.getElem?_eq_some_iff.1 hi'').1
          have := hle eb
          exact ⟨x, by rw [hget, if_neg (by omega)]; exact hx, hvx.mono hsub⟩
        · exact ⟨d, ty', lo', hi', by rw [wset_get, if_neg eb]; exact g1, g2, g3, g4, fun i v hi'' => let ⟨x, hx, hvx⟩ := g5 i v hi''; ⟨x, hx, hvx.mono hsub⟩⟩
      by_cases e' : j = id
      · subst e'
        rw [if_pos rfl] at hj
        obtain rfl := Option.some.inj hj
        obtain rfl := Option.some.inj (hr.symm.trans hr')
        exact keep _ _ _ _ _ _ hg (fun _ => Nat.le_refl _) _ _ _ _ _ _ rfl
      · rw [if_neg e'] at hj
        cases k with
        | cells c' ro p w' a' t' =>
          refine keep _ _ _ _ _ _ hj (fun eb => ?_) _ _ _ _ _ _ rfl
          obtain ⟨e1, e2⟩ := hR.sep j _ r' id _ r hj hr' hg hr e' eb
          subst e1
          have := hR.ok.tail id cs ro pos true al hg j c' p w' a' t' hj
          omega
        | map es clock =>
          have eb : r'.b ≠ r.b := fun eb => (hR.sep j _ r' id _ r hj hr' hg hr e' eb).elim
          exact ((hR.blk j _ r' hj hr').mono hsub).same (by rw [wset_get, if_neg eb])
        | iter m s se st =>
          have eb : r'.b ≠ r.b := fun eb => (hR.sep j _ r' id _ r hj hr' hg hr e' eb).elim
          exact ((hR.blk j _ r' hj hr').mono hsub).same (by rw [wset_get, if_neg eb])
        | loop bz ln lm lp la lb =>
          have eb : r'.b ≠ r.b := fun eb => (hR.sep j _ r' id _ r hj hr' hg hr e' eb).elim
          exact ((hR.blk j _ r' hj hr').mono hsub).same (by rw [wset_get, if_neg eb])
        | obj ob =>
          have eb : r'.b ≠ r.b := fun eb => (hR.sep j _ r' id _ r hj hr' hg hr e' eb).elim
          exact ((hR.blk j _ r' hj hr').mono hsub).same (by rw [wset_get, if_neg eb])
        | gone =>
          have eb : r'.b ≠ r.b := fun eb => (hR.sep j _ r' id _ r hj hr' hg hr e' eb).elim
          exact ((hR.blk j _ r' hj hr').mono hsub).same (by rw [wset_get, if_neg eb])
  · intro j k r' hj hr' hm
    rw [appSt_get] at hj
    by_cases e : j = rid
    · subst e
      rw [upd_self] at hr'
      obtain rfl := Option.some.inj hr'
      exact hB
    · rw [if_neg e] at hj
      rw [upd_ne _ _ e] at hr'
      by_cases e' : j = id
      · subst e'
        obtain rfl := Option.some.inj (hr.symm.trans hr')
        exact hB
      · rw [if_neg e'] at hj
        exact hR.fresh j k r' hj hr' hm
  · have kinId : ∀ j k r', j ≠ rid → (appSt S id rid cs ((old ++ new).map some) root pos off true).get j = some k → ρ j = some r' → r'.b = r.b → Kin k r' (.cells cs root pos true al true) r := by
      intro j k r' e hj hr' eb
      rw [appSt_get, if_neg e] at hj
      by_cases e' : j = id
      · subst e'
        rw [if_pos rfl] at hj
        obtain rfl := Option.some.inj hj
        obtain rfl := Option.some.inj (hr.symm.trans hr')
        exact ⟨rfl, rfl⟩
      · rw [if_neg e'] at hj
        exact hR.sep j k r' id _ r hj hr' hg hr e' eb
    intro i k1 r1 j k2 r2 hi h1' hj h2' hij hb
    by_cases ei : i = rid
    · have ej : j ≠ rid := fun e => hij (ei.trans e.symm)
      subst ei
      rw [upd_self] at h1'
      obtain rfl := Option.some.inj h1'
      rw [upd_ne _ _ ej] at h2'
      rw [appSt_get, if_pos rfl] at hi
      obtain rfl := Option.some.inj hi
      have hk := kinId j k2 r2 ej hj h2' hb.symm
      cases k2 with
      | cells c' ro p w' a' t' =>
        obtain ⟨e1, e2⟩ := hk
        subst e1
        refine ⟨rfl, ?_⟩
        show r.sh + off + p = r2.sh + (pos + off)
        omega
      | map => exact hk
      | iter => exact hk
      | loop => exact hk
      | obj => exact hk
      | gone => exact hk
    · rw [upd_ne _ _ ei] at h1'
      by_cases ej : j = rid
      · subst ej
        rw [upd_self] at h2'
        obtain rfl := Option.some.inj h2'
        rw [appSt_get, if_pos rfl] at hj
        obtain rfl := Option.some.inj hj
        have hk := kinId i k1 r1 ei hi h1' hb
        cases k1 with
        | cells c' ro p w' a' t' =>
          obtain ⟨e1, e2⟩ := hk
          subst e1
          refine ⟨rfl, ?_⟩
          show r1.sh + (pos + off) = r.sh + off + p
          omega
        | map => exact hk
        | iter => exact hk
        | loop => exact hk
        | obj => exact hk
        | gone => exact hk
      · rw [upd_ne _ _ ej] at h2'
        rw [appSt_get, if_neg ei] at hi
        rw [appSt_get, if_neg ej] at hj
        by_cases ei' : i = id
        · subst ei'
          rw [if_pos rfl] at hi
          obtain rfl := Option.some.inj hi
          rw [if_neg (Ne.symm hij)] at hj
          have := hR.sep i _ r1 j k2 r2 hg h1' hj h2' hij hb
          cases k2 <;> exact this
        · rw [if_neg ei'] at hi
          by_cases ej' : j = id
          · subst ej'
            rw [if_pos rfl] at hj
            obtain rfl := Option.some.inj hj
            have := hR.sep i k1 r1 j _ r2 hi h1' hg h2' hij hb
            cases k1 <;> exact this
          · rw [if_neg ej'] at hj
            exact hR.sep i k1 r1 j k2 r2 hi h1' hj h2' hij hb
end Go.Eng
