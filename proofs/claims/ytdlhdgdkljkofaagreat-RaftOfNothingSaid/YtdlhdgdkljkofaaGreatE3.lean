/-
  The steps of a world that an abstract state follows: a draw, a new block, a block written anew, an append.
-/
import Derived.Test.YtdlhdgdkljkofaaGreatE2
import Derived.Laws.NewBlocks
namespace Go.Eng
open Go.RowKit (Below)

def wset (w : World) (b : Nat) (o : Obj) : World := { w with heap := w.heap.setIfInBounds b o }
theorem wset_get (w : World) (b : Nat) (o : Obj) (j : Nat) : (wset w b o).heap[j]? = if j = b then (if b < w.heap.size then some o else none) else w.heap[j]? := by
  unfold wset
  by_cases h : j = b
  · subst h
    simp only [if_true]
    by_cases hb : j < w.heap.size
    · simp [hb]
    · simp [hb]
  · rw [if_neg h]; exact Array.getElem?_setIfInBounds_ne (Ne.symm h)
theorem wset_size (w : World) (b : Nat) (o : Obj) : (wset w b o).heap.size = w.heap.size := by simp [wset]
theorem wset_wset (w : World) (b : Nat) (o o' : Obj) : wset (wset w b o) b o' = wset w b o' := by
  simp [wset, Array.setIfInBounds_setIfInBounds]
theorem wset_below {B : Nat} {w0 w : World} (h : Below B w0 w) {b : Nat} (hb : B ≤ b) (o : Obj) : Below B w0 (wset w b o) :=
  ⟨h.os, h.tape, h.output, by rw [wset_size]; exact h.size, fun k hk => by rw [wset_get, if_neg (by omega)]; exact h.block k hk⟩
theorem alloc_get (w : World) (o : Obj) (j : Nat) : (w.alloc o).heap[j]? = if j = w.heap.size then some o else w.heap[j]? := by
  simp only [World.alloc, Array.getElem?_push]
theorem alloc_below {B : Nat} {w0 w : World} (h : Below B w0 w) (hb : B ≤ w.heap.size) (o : Obj) : Below B w0 (w.alloc o) := h.alloc hb o

def upd (ρ : Pl) (id : Nat) (r : Real) : Pl := fun j => if j = id then some r else ρ j
theorem upd_self (ρ : Pl) (id : Nat) (r : Real) : upd ρ id r id = some r := if_pos rfl
theorem upd_ne (ρ : Pl) {id j : Nat} (r : Real) (h : j ≠ id) : upd ρ id r j = ρ j := if_neg h
theorem sub_upd {ρ : Pl} {id : Nat} (r : Real) (h : ρ id = none) : Sub ρ (upd ρ id r) := fun j q e => by
  rw [upd_ne]; exact e; rintro rfl; rw [h] at e; cases e

/-- A number that no block has. -/
structure Fresh (ρ : Pl) (S : St) (id : Nat) : Prop where
  lt : id < S.next
  un : ρ id = none
  rt : ∀ j cs pos wr al tl, S.get j = some (.cells cs id pos wr al tl) → j = id

variable {B : Nat} {w0 w : World} {ρ : Pl} {S : St}

theorem R.drew (h : R B w0 ρ S w) : R B w0 ρ S w.drew :=
  ⟨h.ok, h.below.drew, h.base, h.dom, fun id k r a b => (h.blk id k r a b).same rfl, h.fresh, h.sep⟩

/-- A new kind of block, whose number nobody has. -/
def Blk.newAs (k : Blk) (id : Nat) : Prop :=
  match k with
  | .cells _ root pos wr _ _ => root = id ∧ pos = 0 ∧ wr = true
  | _ => True

theorem Ok.new {S : St} (h : Ok S) {id : Nat} {k : Blk} (hlt : id < S.next) (hn : k.newAs id) (rt : ∀ j cs pos wr al tl, S.get j = some (.cells cs id pos wr al tl) → j = id) : Ok (S.put id k) := by
  constructor
  · intro i cs root pos wr alone hi j cs' pos' wr' alone' tail' hj
    rw [St.get_put] at hi hj
    by_cases e : i = id
    · rw [if_pos e] at hi
      obtain rfl := Option.some.inj hi
      obtain ⟨rfl, rfl, rfl⟩ := hn
      by_cases e' : j = root
      · rw [if_pos e'] at hj
        have := Option.some.inj hj
        simp only [Blk.cells.injEq] at this
        obtain ⟨e1, -, e3, -⟩ := this
        rw [e1, e3]
        exact Nat.le_refl _
      · rw [if_neg e'] at hj
        exact absurd (rt j _ _ _ _ _ hj) e'
    · rw [if_neg e] at hi
      by_cases e' : j = id
      · rw [if_pos e'] at hj
        obtain rfl := Option.some.inj hj
        obtain ⟨rfl, rfl, rfl⟩ := hn
        exact absurd (rt i _ _ _ _ _ hi) e
      · rw [if_neg e'] at hj
        exact h.tail i cs root pos wr alone hi j cs' pos' wr' alone' tail' hj
  · intro i cs root pos wr alone hi j cs' pos' wr' alone' hj
    rw [St.get_put] at hi hj
    by_cases e : i = id
    · rw [if_pos e] at hi
      obtain rfl := Option.some.inj hi
      obtain ⟨rfl, rfl, rfl⟩ := hn
      by_cases e' : j = root
      · omega
      · rw [if_neg e'] at hj
        exact absurd (rt j _ _ _ _ _ hj) e'
    · rw [if_neg e] at hi
      by_cases e' : j = id
      · rw [if_pos e'] at hj
        obtain rfl := Option.some.inj hj
        obtain ⟨rfl, rfl, rfl⟩ := hn
        exact absurd (rt i _ _ _ _ _ hi) e
      · rw [if_neg e'] at hj
        exact h.uniq i cs root pos wr alone hi j cs' pos' wr' alone' hj
  · intro i cs root pos wr tail hi j cs' pos' wr' alone' tail' hj
    rw [St.get_put] at hi hj
    by_cases e : i = id
    · rw [if_pos e] at hi
      obtain rfl := Option.some.inj hi
      obtain ⟨rfl, rfl, rfl⟩ := hn
      by_cases e' : j = root
      · omega
      · rw [if_neg e'] at hj
        exact absurd (rt j _ _ _ _ _ hj) e'
    · rw [if_neg e] at hi
      by_cases e' : j = id
      · rw [if_pos e'] at hj
        obtain rfl := Option.some.inj hj
        obtain ⟨rfl, rfl, rfl⟩ := hn
        exact absurd (rt i _ _ _ _ _ hi) e
      · rw [if_neg e'] at hj
        exact h.alone i cs root pos wr tail hi j cs' pos' wr' alone' tail' hj
  · intro i cs root pos wr alone tail hi
    rw [St.get_put] at hi
    rw [St.next_put]
    by_cases e : i = id
    · rw [if_pos e] at hi
      obtain rfl := Option.some.inj hi
      obtain ⟨rfl, rfl, rfl⟩ := hn
      exact hlt
    · rw [if_neg e] at hi
      exact h.root _ _ _ _ _ _ _ hi

theorem R.new (h : R B w0 ρ S w) {id : Nat} (hf : Fresh ρ S id) {k : Blk} {o : Obj} {tot : Nat} (hn : k.newAs id)
    (hb : BlkRel (upd ρ id ⟨w.heap.size, 0, tot⟩) k ⟨w.heap.size, 0, tot⟩ (w.alloc o)) :
    R B w0 (upd ρ id ⟨w.heap.size, 0, tot⟩) (S.put id k) (w.alloc o) := by
  have hs := sub_upd (ρ := ρ) ⟨w.heap.size, 0, tot⟩ hf.un
  refine ⟨h.ok.new hf.lt hn hf.rt, alloc_below h.below h.base o, by have := h.base; simp; omega, ?_, ?_, ?_, ?_⟩
  · intro j r hj
    by_cases e : j = id
    · subst e
      rw [upd_self] at hj
      obtain rfl := Option.some.inj hj
      exact ⟨hf.lt, by simp⟩
    · rw [upd_ne _ _ e] at hj
      have := h.dom j r hj
      exact ⟨this.1, by simp; omega⟩
  · intro j q r hj hr
    rw [St.get_put] at hj
    by_cases e : j = id
    · subst e
      rw [if_pos rfl] at hj
      rw [upd_self] at hr
      obtain rfl := Option.some.inj hj
      obtain rfl := Option.some.inj hr
      exact hb
    · rw [if_neg e] at hj
      rw [upd_ne _ _ e] at hr
      have hd := h.dom j r hr
      exact ((h.blk j q r hj hr).mono hs).same (by rw [alloc_get, if_neg (by omega)])
  · intro j q r hj hr hm
    rw [St.get_put] at hj
    by_cases e : j = id
    · subst e
      rw [upd_self] at hr
      obtain rfl := Option.some.inj hr
      exact h.base
    · rw [if_neg e] at hj
      rw [upd_ne _ _ e] at hr
      exact h.fresh j q r hj hr hm
  · intro i p r j q r' hi hr hj hr' hne hb'
    rw [St.get_put] at hi hj
    by_cases e : i = id
    · have e' : j ≠ id := fun x => hne (e.trans x.symm)
      subst e
      rw [upd_self] at hr
      rw [upd_ne _ _ e'] at hr'
      obtain rfl := Option.some.inj hr
      have := (h.dom j r' hr').2
      simp at hb'
      omega
    · rw [if_neg e] at hi
      rw [upd_ne _ _ e] at hr
      by_cases e' : j = id
      · subst e'
        rw [upd_self] at hr'
        obtain rfl := Option.some.inj hr'
        have := (h.dom i r hr).2
        simp at hb'
        omega
      · rw [if_neg e'] at hj
        rw [upd_ne _ _ e'] at hr'
        exact h.sep i p r j q r' hi hr hj hr' hne hb'

/-- A block that nobody shares is written anew. -/
theorem R.set (h : R B w0 ρ S w) {id : Nat} {k k' : Blk} {r : Real} {o : Obj} (hk : S.get id = some k) (hr : ρ id = some r) (hm : k.may = true)
    (hsolo : ∀ j q r', j ≠ id → S.get j = some q → ρ j = some r' → r'.b ≠ r.b) (hok : Ok (S.put id k'))
    (hb : BlkRel ρ k' r (wset w r.b o)) : R B w0 ρ (S.put id k') (wset w r.b o) := by
  have hB := h.fresh id k r hk hr hm
  refine ⟨hok, wset_below h.below hB o, by rw [wset_size]; exact h.base, ?_, ?_, ?_, ?_⟩
  · intro j q hj
    rw [wset_size]
    exact h.dom j q hj
  · intro j q r' hj hr'
    rw [St.get_put] at hj
    by_cases e : j = id
    · subst e
      rw [if_pos rfl] at hj
      obtain rfl := Option.some.inj hj
      obtain rfl := Option.some.inj (hr.symm.trans hr')
      exact hb
    · rw [if_neg e] at hj
      exact (h.blk j q r' hj hr').same (by rw [wset_get, if_neg (hsolo j q r' e hj hr')])
  · intro j q r' hj hr' hm'
    rw [St.get_put] at hj
    by_cases e : j = id
    · subst e
      obtain rfl := Option.some.inj (hr.symm.trans hr')
      exact hB
    · rw [if_neg e] at hj
      exact h.fresh j q r' hj hr' hm'
  · intro i p r1 j q r2 hi h1 hj h2 hne hb'
    rw [St.get_put] at hi hj
    by_cases e : i = id
    · have e' : j ≠ id := fun x => hne (e.trans x.symm)
      subst e
      rw [if_neg e'] at hj
      obtain rfl := Option.some.inj (hr.symm.trans h1)
      exact absurd hb'.symm (hsolo j q r2 e' hj h2)
    · rw [if_neg e] at hi
      by_cases e' : j = id
      · subst e'
        obtain rfl := Option.some.inj (hr.symm.trans h2)
        exact absurd hb' (hsolo i p r1 e hi h1)
      · rw [if_neg e'] at hj
        exact h.sep i p r1 j q r2 hi h1 hj h2 hne hb'

/-- Nobody shares a block of cells that is alone. -/
theorem R.solo (h : R B w0 ρ S w) {id : Nat} {cs : List (Option AV)} {root pos : Nat} {wr tail : Bool} {r : Real}
    (hk : S.get id = some (.cells cs root pos wr true tail)) (hr : ρ id = some r) : ∀ j q r', j ≠ id → S.get j = some q → ρ j = some r' → r'.b ≠ r.b := by
  intro j q r' hne hj hr' hb
  have hkin := h.sep id _ r j q r' hk hr hj hr' (Ne.symm hne) hb.symm
  cases q with
  | cells cs' root' pos' wr' al' tl' =>
    obtain ⟨e, _⟩ := hkin
    subst e
    exact hne (h.ok.alone id _ _ _ _ _ hk j _ _ _ _ _ hj)
  | map => exact hkin
  | iter => exact hkin
/-- Nobody shares a block that is not of cells. -/
theorem R.solo_obj (h : R B w0 ρ S w) {id : Nat} {k : Blk} {r : Real} (hk : S.get id = some k) (hc : ∀ cs root pos wr al tl, k ≠ .cells cs root pos wr al tl)
    (hr : ρ id = some r) : ∀ j q r', j ≠ id → S.get j = some q → ρ j = some r' → r'.b ≠ r.b := by
  intro j q r' hne hj hr' hb
  have hkin := h.sep id _ r j q r' hk hr hj hr' (Ne.symm hne) hb.symm
  cases k with
  | cells cs root pos wr al tl => exact absurd rfl (hc cs root pos wr al tl)
  | map => cases q <;> exact hkin
  | iter => cases q <;> exact hkin
/-- Cells are written: length and place stay. -/
theorem Ok.cells {S : St} (h : Ok S) {id : Nat} {cs cs' : List (Option AV)} {root pos : Nat} {wr al tl : Bool} (hk : S.get id = some (.cells cs root pos wr al tl)) (hl : cs'.length = cs.length) :
    Ok (S.put id (.cells cs' root pos wr al tl)) := by
  have key : ∀ j c ro p wr' a t, (S.put id (.cells cs' root pos wr al tl)).get j = some (.cells c ro p wr' a t) → ∃ c', S.get j = some (.cells c' ro p wr' a t) ∧ c'.length = c.length := by
    intro j c ro p wr' a t hj
    rw [St.get_put] at hj
    by_cases e : j = id
    · rw [if_pos e] at hj
      have := Option.some.inj hj
      simp only [Blk.cells.injEq] at this
      obtain ⟨rfl, rfl, rfl, rfl, rfl, rfl⟩ := this
      subst e
      exact ⟨cs, hk, hl.symm⟩
    · rw [if_neg e] at hj
      exact ⟨c, hj, rfl⟩
  constructor
  · intro i c ro p w a hi j c' p' w' a' t' hj
    obtain ⟨d, hd, e⟩ := key _ _ _ _ _ _ _ hi
    obtain ⟨d', hd', e'⟩ := key _ _ _ _ _ _ _ hj
    have := h.tail i d ro p w a hd j d' p' w' a' t' hd'
    omega
  · intro i c ro p w a hi j c' p' w' a' hj
    obtain ⟨d, hd, e⟩ := key _ _ _ _ _ _ _ hi
    obtain ⟨d', hd', e'⟩ := key _ _ _ _ _ _ _ hj
    exact h.uniq i d ro p w a hd j d' p' w' a' hd'
  · intro i c ro p w a hi j c' p' w' a' t' hj
    obtain ⟨d, hd, e⟩ := key _ _ _ _ _ _ _ hi
    obtain ⟨d', hd', e'⟩ := key _ _ _ _ _ _ _ hj
    exact h.alone i d ro p w a hd j d' p' w' a' t' hd'
  · intro i c ro p w a t hi
    obtain ⟨d, hd, e⟩ := key _ _ _ _ _ _ _ hi
    exact h.root _ _ _ _ _ _ _ hd
/-- An object that is not of cells changes nothing of this. -/
theorem Ok.obj {S : St} (h : Ok S) {id : Nat} {k' : Blk}
    (hc' : ∀ cs root pos wr al tl, k' ≠ .cells cs root pos wr al tl) : Ok (S.put id k') := by
  have key : ∀ j c ro p wr' a t, (S.put id k').get j = some (.cells c ro p wr' a t) → S.get j = some (.cells c ro p wr' a t) := by
    intro j c ro p wr' a t hj
    rw [St.get_put] at hj
    by_cases e : j = id
    · rw [if_pos e] at hj
      exact absurd (Option.some.inj hj) (hc' _ _ _ _ _ _)
    · rwa [if_neg e] at hj
  exact ⟨fun i c ro p w a hi j c' p' w' a' t' hj => h.tail i c ro p w a (key _ _ _ _ _ _ _ hi) j c' p' w' a' t' (key _ _ _ _ _ _ _ hj),
    fun i c ro p w a hi j c' p' w' a' hj => h.uniq i c ro p w a (key _ _ _ _ _ _ _ hi) j c' p' w' a' (key _ _ _ _ _ _ _ hj),
    fun i c ro p w a hi j c' p' w' a' t' hj => h.alone i c ro p w a (key _ _ _ _ _ _ _ hi) j c' p' w' a' t' (key _ _ _ _ _ _ _ hj),
    fun i c ro p w a t hi => h.root _ _ _ _ _ _ _ (key _ _ _ _ _ _ _ hi)⟩
end Go.Eng
