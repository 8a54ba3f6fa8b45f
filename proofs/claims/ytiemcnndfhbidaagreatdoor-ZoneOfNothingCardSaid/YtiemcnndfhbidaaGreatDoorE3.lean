/-
  The steps of a world that an abstract state follows: a draw, a new block, a block written anew, an append.
-/
import Derived.Test.YtiemcnndfhbidaaGreatDoorE2
import Derived.Laws.NewBlocks
namespace Go.Eng
open Go.RowKit (Below)

def wset (w : World) (b : Nat) (o : Obj) : World := { w with heap := w.heap.setIfInBounds b o }
theorem wset_get (w : World) (b : Nat) (o : Obj) (j : Nat) : (wset w b o).heap[j]? = if j = b then (if b < w.heap.size then some o else none) else w.heap[j]? := by
  unfold wset
  by_cases h : j = b
  · subst h
    simp only [if_true]
    by_cases hb : j < w.heap.size
    · simp [hb]
    · simp [hb]
  · rw [if_neg h]; exact Array.getElem?_setIfInBounds_ne (Ne.symm h)
theorem wset_size (w : World) (b : Nat) (o : Obj) : (wset w b o).heap.size = w.heap.size := by simp [wset]
theorem wset_wset (w : World) (b : Nat) (o o' : Obj) : wset (wset w b o) b o' = wset w b o' := by
  simp [wset, Array.setIfInBounds_setIfInBounds]
theorem wset_below {B : Nat} {w0 w : World} (h : Below B w0 w) {b : Nat} (hb : B ≤ b) (o : Obj) : Below B w0 (wset w b o) :=
  ⟨h.os, h.tape, h.output, by rw [wset_size]; exact h.size, fun k hk => by rw [wset_get, if_neg (by omega)]; exact h.block k hk⟩
theorem alloc_get (w : World) (o : Obj) (j : Nat) : (w.alloc o).heap[j]? = if j = w.heap.size then some o else w.heap[j]? := by
  simp only [World.alloc, Array.getElem?_push]
theorem alloc_below {B : Nat} {w0 w : World} (h : Below B w0 w) (hb : B ≤ w.heap.size) (o : Obj) : Below B w0 (w.alloc o) := h.alloc hb o

def upd (ρ : Pl) (id : Nat) (r : Real) : Pl := { ρ with at_ := fun j => if j = id then some r else ρ j }
theorem upd_self (ρ : Pl) (id : Nat) (r : Real) : upd ρ id r id = some r := if_pos rfl
theorem upd_ne (ρ : Pl) {id j : Nat} (r : Real) (h : j ≠ id) : upd ρ id r j = ρ j := if_neg h
theorem sub_upd {ρ : Pl} {id : Nat} (r : Real) (h : ρ id = none) : Sub ρ (upd ρ id r) := ⟨fun j q e => (by
  rw [upd_ne]
  · exact e
  · rintro rfl
    rw [h] at e
    cases e), rfl, rfl⟩

/-- A number that no block has. -/
structure Fresh (ρ : Pl) (S : St) (id : Nat) : Prop where
  lt : id < S.next
  un : ρ id = none
  rt : ∀ j cs pos wr al tl, S.get j = some (.cells cs id pos wr al tl) → j = id

variable {B : Nat} {w0 w : World} {ρ : Pl} {S : St}

theorem R.drew (h : R B w0 ρ S w) : R B w0 ρ S w.drew :=
  ⟨h.ok, h.below.drew, h.base, h.dom, fun id k r a b => (h.blk id k r a b).same rfl, h.fresh, h.sep⟩

/-- A new kind of block, whose number nobody has. -/
def Blk.newAs (k : Blk) (id : Nat) : Prop :=
  match k with
  | .cells _ root pos wr _ _ => root = id ∧ pos = 0 ∧ wr = true
  | _ => True

theorem Ok.new {S : St} (h : Ok S) {id : Nat} {k : Blk} (hlt : id < S.next) (hn : k.newAs id) (rt : ∀ j cs pos wr al tl, S.get j = some (.cells cs id pos wr al tl) → j = id) : Ok (S.put id k) := by
  constructor
  · intro i cs root pos wr alone hi j cs' pos' wr' alone' tail' hj
    rw [St.get_put] at hi hj
    by_cases e : i = id
    · rw [if_pos e] at hi
      obtain rfl := Option.some.inj hi
      obtain ⟨rfl, rfl, rfl⟩ := hn
      by_cases e' : j = root
      · rw [if_pos e'] at hj
        have := Option.some.inj hj
        simp only [Blk.cells.injEq] at this
        obtain ⟨e1, -, e3, -⟩ := this
        rw [e1, e3]
        exact Nat.le_refl _
      · rw [if_neg e'] at hj
        exact absurd (rt j _ _ _ _ _ hj) e'
    · rw [if_neg e] at hi
      by_cases e' : j = id
      · rw [if_pos e'] at hj
        obtain rfl := Option.some.inj hj
        obtain ⟨rfl, rfl, rfl⟩ := hn
        exact absurd (rt i _ _ _ _ _ hi) e
      · rw [if_neg e'] at hj
        exact h.tail i cs root pos wr alone hi j cs' pos' wr' alone' tail' hj
  · intro i cs root pos wr alone hi j cs' pos' wr' alone' hj
    rw [St.get_put] at hi hj
    by_cases e : i = id
    · rw [if_pos e] at hi
      obtain rfl := Option.some.inj hi
      obtain ⟨rfl, rfl, rfl⟩ := hn
      by_cases e' : j = root
      · omega
      · rw [if_neg e'] at hj
        exact absurd (rt j _ _ _ _ _ hj) e'
    · rw [if_neg e] at hi
      by_cases e' : j = id
      · rw [if_pos e'] at hj
        obtain rfl := Option.some.inj hj
        obtain ⟨rfl, rfl, rfl⟩ := hn
        exact absurd (rt i _ _ _ _ _ hi) e
      · rw [if_neg e'] at hj
        exact h.uniq i cs root pos wr alone hi j cs' pos' wr' alone' hj
  · intro i cs root pos wr tail hi j cs' pos' wr' alone' tail' hj
    rw [St.get_put] at hi hj
    by_cases e : i = id
    · rw [if_pos e] at hi
      obtain rfl := Option.some.inj hi
      obtain ⟨rfl, rfl, rfl⟩ := hn
      by_cases e' : j = root
      · omega
      · rw [if_neg e'] at hj
        exact absurd (rt j _ _ _ _ _ hj) e'
    · rw [if_neg e] at hi
      by_cases e' : j = id
      · rw [if_pos e'] at hj
        obtain rfl := Option.some.inj hj
        obtain ⟨rfl, rfl, rfl⟩ := hn
        exact absurd (rt i _ _ _ _ _ hi) e
      · rw [if_neg e'] at hj
        exact h.alone i cs root pos wr tail hi j cs' pos' wr' alone' tail' hj
  · intro i cs root pos wr alone tail hi
    rw [St.get_put] at hi
    rw [St.next_put]
    by_cases e : i = id
    · rw [if_pos e] at hi
      obtain rfl := Option.some.inj hi
      obtain ⟨rfl, rfl, rfl⟩ := hn
      exact hlt
    · rw [if_neg e] at hi
      exact h.root _ _ _ _ _ _ _ hi

theorem R.new (h : R B w0 ρ S w) {id : Nat} (hf : Fresh ρ S id) {k : Blk} {o : Obj} {tot : Nat} (hn : k.newAs id)
    (hb : BlkRel (upd ρ id ⟨w.heap.size, 0, tot⟩) k ⟨w.heap.size, 0, tot⟩ (w.alloc o)) :
    R B w0 (upd ρ id ⟨w.heap.size, 0, tot⟩) (S.put id k) (w.alloc o) := by
  have hs := sub_upd (ρ := ρ) ⟨w.heap.size, 0, tot⟩ hf.un
  refine ⟨h.ok.new hf.lt hn hf.rt, alloc_below h.below h.base o, by have := h.base; simp; omega, ?_, ?_, ?_, ?_⟩
  · intro j r hj
    by_cases e : j = id
    · subst e
      rw [upd_self] at hj
      obtain rfl := Option.some.inj hj
      exact ⟨hf.lt, by simp⟩
    · rw [upd_ne _ _ e] at hj
      have := h.dom j r hj
      exact ⟨this.1, by simp; omega⟩
  · intro j q r hj hr
    rw [St.get_put] at hj
    by_cases e : j = id
    · subst e
      rw [if_pos rfl] at hj
      rw [upd_self] at hr
      obtain rfl := Option.some.inj hj
      obtain rfl := Option.some.inj hr
      exact hb
    · rw [if_neg e] at hj
      rw [upd_ne _ _ e] at hr
      have hd := h.dom j r hr
      exact ((h.blk j q r hj hr).mono hs).same (by rw [alloc_get, if_neg (by omega)])
  · intro j q r hj hr hm
    rw [St.get_put] at hj
    by_cases e : j = id
    · subst e
      rw [upd_self] at hr
      obtain rfl := Option.some.inj hr
      exact h.base
    · rw [if_neg e] at hj
      rw [upd_ne _ _ e] at hr
      exact h.fresh j q r hj hr hm
  · intro i p r j q r' hi hr hj hr' hne hb'
    rw [St.get_put] at hi hj
    by_cases e : i = id
    · have e' : j ≠ id := fun x => hne (e.trans x.symm)
      subst e
      rw [upd_self] at hr
      rw [upd_ne _ _ e'] at hr'
      obtain rfl := Option.some.inj hr
      have := (h.dom j r' hr').2
      simp at hb'
      omega
    · rw [if_neg e] at hi
      rw [upd_ne _ _ e] at hr
      by_cases e' : j = id
      · subst e'
        rw [upd_self] at hr'
        obtain rfl := Option.some.inj hr'
        have := (h.dom i r hr).2
        simp at hb'
        omega
      · rw [if_neg e'] at hj
        rw [upd_ne _ _ e'] at hr'
        exact h.sep i p r j q r' hi hr hj hr' hne hb'

/-- A block that nobody shares is written anew. -/
theorem R.set (h : R B w0 ρ S w) {id : Nat} {k k' : Blk} {r : Real} {o : Obj} (hk : S.get id = some k) (hr : ρ id = some r) (hm : k.may = true)
    (hsolo : ∀ j q r', j ≠ id → S.get j = some q → ρ j = some r' → r'.b ≠ r.b) (hok : Ok (S.put id k'))
    (hb : BlkRel ρ k' r (wset w r.b o)) : R B w0 ρ (S.put id k') (wset w r.b o) := by
  have hB := h.fresh id k r hk hr hm
  refine ⟨hok, wset_below h.below hB o, by rw [wset_size]; exact h.base, ?_, ?_, ?_, ?_⟩
  · intro j q hj
    rw [wset_size]
    exact h.dom j q hj
  · intro j q r' hj hr'
    rw [St.get_put] at hj
    by_cases e : j = id
    · subst e
      rw [if_pos rfl] at hj
      obtain rfl := Option.some.inj hj
      obtain rfl := Option.some.inj (hr.symm.trans hr')
      exact hb
    · rw [if_neg e] at hj
      exact (h.blk j q r' hj hr').same (by rw [wset_get, if_neg (hsolo j q r' e hj hr')])
  · intro j q r' hj hr' hm'
    rw [St.get_put] at hj
    by_cases e : j = id
    · subst e
      obtain rfl := Option.some.inj (hr.symm.trans hr')
      exact hB
    · rw [if_neg e] at hj
      exact h.fresh j q r' hj hr' hm'
  · intro i p r1 j q r2 hi h1 hj h2 hne hb'
    rw [St.get_put] at hi hj
    by_cases e : i = id
    · have e' : j ≠ id := fun x => hne (e.trans x.symm)
      subst e
      rw [if_neg e'] at hj
      obtain rfl := Option.some.inj (hr.symm.trans h1)
      exact absurd hb'.symm (hsolo j q r2 e' hj h2)
    · rw [if_neg e] at hi
      by_cases e' : j = id
      · subst e'
        obtain rfl := Option.some.inj (hr.symm.trans h2)
        exact absurd hb' (hsolo i p r1 e hi h1)
      · rw [if_neg e'] at hj
        exact h.sep i p r1 j q r2 hi h1 hj h2 hne hb'

/-- Nobody shares a block of cells that is alone. -/
theorem R.solo (h : R B w0 ρ S w) {id : Nat} {cs : List (Option AV)} {root pos : Nat} {wr tail : Bool} {r : Real}
    (hk : S.get id = some (.cells cs root pos wr true tail)) (hr : ρ id = some r) : ∀ j q r', j ≠ id → S.get j = some q → ρ j = some r' → r'.b ≠ r.b := by
  intro j q r' hne hj hr' hb
  have hkin := h.sep id _ r j q r' hk hr hj hr' (Ne.symm hne) hb.symm
  cases q with
  | cells cs' root' pos' wr' al' tl' =>
    obtain ⟨e, _⟩ := hkin
    subst e
    exact hne (h.ok.alone id _ _ _ _ _ hk j _ _ _ _ _ hj)
  | map => exact hkin
  | iter => exact hkin
  | loop => exact hkin
  | obj => exact hkin
  | gone => exact hkin
/-- Nobody shares a block that is not of cells. -/
theorem R.solo_obj (h : R B w0 ρ S w) {id : Nat} {k : Blk} {r : Real} (hk : S.get id = some k) (hc : ∀ cs root pos wr al tl, k ≠ .cells cs root pos wr al tl)
    (hr : ρ id = some r) : ∀ j q r', j ≠ id → S.get j = some q → ρ j = some r' → r'.b ≠ r.b := by
  intro j q r' hne hj hr' hb
  have hkin := h.sep id _ r j q r' hk hr hj hr' (Ne.symm hne) hb.symm
  cases k with
  | cells cs root pos wr al tl => exact absurd rfl (hc cs root pos wr al tl)
  | map => cases q <;> exact hkin
  | iter => cases q <;> exact hkin
  | loop => cases q <;> exact hkin
  | obj => cases q <;> exact hkin
  | gone => cases q <;> exact hkin
/-- Cells are written: length and place stay. -/
theorem Ok.cells {S : St} (h : Ok S) {id : Nat} {cs cs' : List (Option AV)} {root pos : Nat} {wr al tl : Bool} (hk : S.get id = some (.cells cs root pos wr al tl)) (hl : cs'.length = cs.length) :
    Ok (S.put id (.cells cs' root pos wr al tl)) := by
  have key : ∀ j c ro p wr' a t, (S.put id (.cells cs' root pos wr al tl)).get j = some (.cells c ro p wr' a t) → ∃ c', S.get j = some (.cells c' ro p wr' a t) ∧ c'.length = c.length := by
    intro j c ro p wr' a t hj
    rw [St.get_put] at hj
    by_cases e : j = id
    · rw [if_pos e] at hj
      have := Option.some.inj hj
      simp only [Blk.cells.injEq] at this
      obtain ⟨rfl, rfl, rfl, rfl, rfl, rfl⟩ := this
      subst e
      exact ⟨cs, hk, hl.symm⟩
    · rw [if_neg e] at hj
      exact ⟨c, hj, rfl⟩
  constructor
  · intro i c ro p w a hi j c' p' w' a' t' hj
    obtain ⟨d, hd, e⟩ := key _ _ _ _ _ _ _ hi
    obtain ⟨d', hd', e'⟩ := key _ _ _ _ _ _ _ hj
    have := h.tail i d ro p w a hd j d' p' w' a' t' hd'
    omega
  · intro i c ro p w a hi j c' p' w' a' hj
    obtain ⟨d, hd, e⟩ := key _ _ _ _ _ _ _ hi
    obtain ⟨d', hd', e'⟩ := key _ _ _ _ _ _ _ hj
    exact h.uniq i d ro p w a hd j d' p' w' a' hd'
  · intro i c ro p w a hi j c' p' w' a' t' hj
    obtain ⟨d, hd, e⟩ := key _ _ _ _ _ _ _ hi
    obtain ⟨d', hd', e'⟩ := key _ _ _ _ _ _ _ hj
    exact h.alone i d ro p w a hd j d' p' w' a' t' hd'
  · intro i c ro p w a t hi
    obtain ⟨d, hd, e⟩ := key _ _ _ _ _ _ _ hi
    exact h.root _ _ _ _ _ _ _ hd
/-- An object that is not of cells changes nothing of this. -/
theorem Ok.obj {S : St} (h : Ok S) {id : Nat} {k' : Blk}
    (hc' : ∀ cs root pos wr al tl, k' ≠ .cells cs root pos wr al tl) : Ok (S.put id k') := by
  have key : ∀ j c ro p wr' a t, (S.put id k').get j = some (.cells c ro p wr' a t) → S.get j = some (.cells c ro p wr' a t) := by
    intro j c ro p wr' a t hj
    rw [St.get_put] at hj
    by_cases e : j = id
    · rw [if_pos e] at hj
      exact absurd (Option.some.inj hj) (hc' _ _ _ _ _ _)
    · rwa [if_neg e] at hj
  exact ⟨fun i c ro p w a hi j c' p' w' a' t' hj => h.tail i c ro p w a (key _ _ _ _ _ _ _ hi) j c' p' w' a' t' (key _ _ _ _ _ _ _ hj),
    fun i c ro p w a hi j c' p' w' a' hj => h.uniq i c ro p w a (key _ _ _ _ _ _ _ hi) j c' p' w' a' (key _ _ _ _ _ _ _ hj),
    fun i c ro p w a hi j c' p' w' a' t' hj => h.alone i c ro p w a (key _ _ _ _ _ _ _ hi) j c' p' w' a' t' (key _ _ _ _ _ _ _ hj),
    fun i c ro p w a t hi => h.root _ _ _ _ _ _ _ (key _ _ _ _ _ _ _ hi)⟩

/-! ### A row comes to be nobody else's: what is known of its kin is let go -/
def notOf (root : Nat) : Blk → Bool
  | .cells _ r _ _ _ _ => !Nat.beq r root
  | _ => true
def soloId (S : St) (id : Nat) : St :=
  match S.get id with
  | some (.cells cs root pos wr false tail) => { h := (S.h.keep (notOf root)).set id (some (.cells cs root pos wr true tail)), next := S.next }
  | _ => S
def soloArgs : List AV → St → St
  | [], S => S
  | .sl id _ _ _ :: r, S => soloArgs r (soloId S id)
  | _ :: r, S => soloArgs r S
def soloIf (b : Bool) (args : List AV) (S : St) : St := match b with | true => soloArgs args S | false => S
theorem soloId_get {id : Nat} {cs : List (Option AV)} {root pos : Nat} {wr tail : Bool} (hg : S.get id = some (.cells cs root pos wr false tail)) (j : Nat) :
    (soloId S id).get j = if j = id then some (.cells cs root pos wr true tail) else (S.get j).filter (notOf root) := by
  unfold soloId
  rw [hg]
  show ((S.h.keep (notOf root)).set id _).get j = _
  rw [Trie.get_set]
  split
  · rfl
  · exact Trie.get_keep _ _ _
theorem soloId_old {id : Nat} {cs : List (Option AV)} {root pos : Nat} {wr tail : Bool} (hg : S.get id = some (.cells cs root pos wr false tail)) {j : Nat} {k : Blk} (h : (soloId S id).get j = some k) :
    (j = id ∧ k = .cells cs root pos wr true tail) ∨ (j ≠ id ∧ S.get j = some k ∧ notOf root k = true) := by
  rw [soloId_get hg] at h
  by_cases e : j = id
  · rw [if_pos e] at h
    exact .inl ⟨e, (Option.some.inj h).symm⟩
  · rw [if_neg e, Option.filter_eq_some_iff] at h
    exact .inr ⟨e, h.1, h.2⟩
theorem notOf_ne {root : Nat} {c : List (Option AV)} {ro p : Nat} {w a t : Bool} (h : notOf root (.cells c ro p w a t) = true) : ro ≠ root := by
  rintro rfl
  simp [notOf] at h
theorem R.soloId (h : R B w0 ρ S w) (id : Nat) : R B w0 ρ (soloId S id) w ∧ (Eng.soloId S id).next = S.next ∧ ∀ q, Fresh ρ S q → Fresh ρ (Eng.soloId S id) q := by
  by_cases hx : ∃ cs root pos wr tail, S.get id = some (.cells cs root pos wr false tail)
  · obtain ⟨cs, root, pos, wr, tail, hg⟩ := hx
    have hn : (Eng.soloId S id).next = S.next := by unfold Eng.soloId; rw [hg]
    have old : ∀ {j c ro p w' a t}, (Eng.soloId S id).get j = some (.cells c ro p w' a t) → ∃ a', S.get j = some (.cells c ro p w' a' t) ∧ (j ≠ id → ro ≠ root ∧ a' = a) ∧ (j = id → ro = root) := by
      intro j c ro p w' a t hj
      rcases soloId_old hg hj with ⟨rfl, e⟩ | ⟨hne, hs, hf⟩
      · simp only [Blk.cells.injEq] at e
        obtain ⟨rfl, rfl, rfl, rfl, rfl, rfl⟩ := e
        exact ⟨false, hg, fun hh => absurd rfl hh, fun _ => rfl⟩
      · exact ⟨a, hs, fun _ => ⟨notOf_ne hf, rfl⟩, fun e => absurd e hne⟩
    have blk : ∀ {j k}, (Eng.soloId S id).get j = some k → ∃ k', S.get j = some k' ∧ k'.may = k.may ∧ (∀ r, BlkRel ρ k' r w → BlkRel ρ k r w) ∧ ∀ r q r', (Kin k' r q r' → Kin k r q r') ∧ (Kin q r' k' r → Kin q r' k r) := by
      intro j k hj
      rcases soloId_old hg hj with ⟨rfl, rfl⟩ | ⟨hne, hs, hf⟩
      · exact ⟨_, hg, rfl, fun _ h => h, fun r q r' => ⟨fun h => by cases q <;> exact h, fun h => by cases q <;> exact h⟩⟩
      · exact ⟨k, hs, rfl, fun _ h => h, fun _ _ _ => ⟨fun h => h, fun h => h⟩⟩
    refine ⟨⟨⟨?_, ?_, ?_, ?_⟩, h.below, h.base, fun j r hr => by rw [hn]; exact h.dom j r hr, ?_, ?_, ?_⟩, hn, ?_⟩
    · intro i c ro p w' a hi j c' p' w'' a' t' hj
      obtain ⟨b1, k1, _⟩ := old hi
      obtain ⟨b2, k2, _⟩ := old hj
      exact h.ok.tail i c ro p w' b1 k1 j c' p' w'' b2 t' k2
    · intro i c ro p w' a hi j c' p' w'' a' hj
      obtain ⟨b1, k1, _⟩ := old hi
      obtain ⟨b2, k2, _⟩ := old hj
      exact h.ok.uniq i c ro p w' b1 k1 j c' p' w'' b2 k2
    · intro i c ro p w' t hi j c' p' w'' a' t' hj
      obtain ⟨b1, k1, n1, m1⟩ := old hi
      obtain ⟨b2, k2, n2, m2⟩ := old hj
      by_cases ei : i = id
      · by_cases ej : j = id
        · rw [ei, ej]
        · exact absurd (m1 ei) (n2 ej).1
      · obtain ⟨-, rfl⟩ := n1 ei
        exact h.ok.alone i c ro p w' t k1 j c' p' w'' b2 t' k2
    · intro i c ro p w' a t hi
      obtain ⟨b1, k1, _⟩ := old hi
      rw [hn]
      exact h.ok.root i c ro p w' b1 t k1
    · intro j k r hj hr
      obtain ⟨k', h1, h2, h3, h4⟩ := blk hj
      exact h3 r (h.blk j k' r h1 hr)
    · intro j k r hj hr hm
      obtain ⟨k', h1, h2, h3, h4⟩ := blk hj
      exact h.fresh j k' r h1 hr (h2.trans hm)
    · intro i k r j q r' hi hr hj hr' hne hb
      obtain ⟨k', h1, h2, h3, h4⟩ := blk hi
      obtain ⟨q', g1, g2, g3, g4⟩ := blk hj
      exact (h4 r q r').1 ((g4 r' k' r).2 (h.sep i k' r j q' r' h1 hr g1 hr' hne hb))
    · intro q hq
      refine ⟨by rw [hn]; exact hq.lt, hq.un, fun j c p w' a t hj => ?_⟩
      obtain ⟨b1, k1, _⟩ := old hj
      exact hq.rt j c p w' b1 t k1
  · have e : Eng.soloId S id = S := by
      unfold Eng.soloId
      split
      · rename_i cs root pos wr tail hg
        exact absurd ⟨cs, root, pos, wr, tail, hg⟩ hx
      · rfl
    rw [e]
    exact ⟨h, rfl, fun _ f => f⟩
theorem R.soloArgs : ∀ (args : List AV) {S : St}, R B w0 ρ S w → R B w0 ρ (Eng.soloArgs args S) w ∧ (Eng.soloArgs args S).next = S.next ∧ ∀ q, Fresh ρ S q → Fresh ρ (Eng.soloArgs args S) q
  | [], _, h => ⟨h, rfl, fun _ f => f⟩
  | a :: r, S, h => by
    by_cases ha : ∃ id o l c, a = .sl id o l c
    · obtain ⟨id, o, l, c, rfl⟩ := ha
      obtain ⟨h1, h2, h3⟩ := h.soloId id
      obtain ⟨g1, g2, g3⟩ := R.soloArgs r h1
      exact ⟨g1, g2.trans h2, fun q f => g3 q (h3 q f)⟩
    · have e : Eng.soloArgs (a :: r) S = Eng.soloArgs r S := by
        cases a <;> first | rfl | exact absurd ⟨_, _, _, _, rfl⟩ ha
      rw [e]
      exact R.soloArgs r h
theorem R.soloIf (h : R B w0 ρ S w) (b : Bool) (args : List AV) : R B w0 ρ (Eng.soloIf b args S) w ∧ (Eng.soloIf b args S).next = S.next ∧ ∀ q, Fresh ρ S q → Fresh ρ (Eng.soloIf b args S) q := by
  cases b with
  | true => exact R.soloArgs args h
  | false => exact ⟨h, rfl, fun _ f => f⟩
end Go.Eng
