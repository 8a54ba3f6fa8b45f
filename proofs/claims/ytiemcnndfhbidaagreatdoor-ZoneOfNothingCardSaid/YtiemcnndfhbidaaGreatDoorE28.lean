/-
  What is known may be left out.
-/
import Derived.Test.YtiemcnndfhbidaaGreatDoorE24
set_option linter.unusedSimpArgs false
set_option linter.unusedVariables false
namespace Go.Eng
open Go.RowKit (Below)

/-! ### Equality of values and blocks -/
def allEq {α : Type} (f : α → α → Bool) : List α → List α → Bool
  | [], [] => true
  | a :: x, b :: y => match f a b with | true => allEq f x y | false => false
  | _, _ => false
theorem allEq_eq {α : Type} {f : α → α → Bool} (hf : ∀ a b, f a b = true → a = b) : ∀ {x y : List α}, allEq f x y = true → x = y
  | [], [], _ => rfl
  | a :: x, b :: y, h => by
    simp only [allEq] at h
    split at h
    · rename_i e
      rw [hf a b e, allEq_eq hf h]
    · cases h
  | [], b :: y, h => by cases h
  | a :: x, [], h => by cases h
def sameFn : Fn → Fn → Bool
  | .func f, .func g => Nat.beq f g
  | _, _ => false
theorem sameFn_eq {f g : Fn} (h : sameFn f g = true) : f = g := by
  unfold sameFn at h
  split at h
  · rw [Nat.eq_of_beq_eq_true h]
  · cases h
def AV.eqF : Nat → AV → AV → Bool
  | 0, a, b => a.same b
  | n + 1, a, b => match a, b with
    | .agg x, .agg y => allEq (AV.eqF n) x y
    | .tup x, .tup y => allEq (AV.eqF n) x y
    | .fn f x c, .fn g y d => sameFn f g && (allEq (AV.eqF n) x y && allEq (AV.eqF n) c d)
    | .ifc t x, .ifc u y => Nat.beq t u && AV.eqF n x y
    | a, b => a.same b
theorem AV.eqF_eq : ∀ (n : Nat) (a b : AV), AV.eqF n a b = true → a = b
  | 0, a, b, h => AV.same_eq h
  | n + 1, a, b, h => by
    simp only [AV.eqF] at h
    split at h
    · rw [allEq_eq (AV.eqF_eq n) h]
    · rw [allEq_eq (AV.eqF_eq n) h]
    · simp only [Bool.and_eq_true] at h
      rw [sameFn_eq h.1, allEq_eq (AV.eqF_eq n) h.2.1, allEq_eq (AV.eqF_eq n) h.2.2]
    · simp only [Bool.and_eq_true] at h
      rw [Nat.eq_of_beq_eq_true h.1, AV.eqF_eq n _ _ h.2]
    · exact AV.same_eq h
def eqO : Option AV → Option AV → Bool
  | none, none => true
  | some a, some b => AV.eqF 3 a b
  | _, _ => false
theorem eqO_eq : ∀ (a b : Option AV), eqO a b = true → a = b
  | none, none, _ => rfl
  | some a, some b, h => by rw [AV.eqF_eq 3 a b h]
  | none, some _, h => by cases h
  | some _, none, h => by cases h
def eqE : AV × AV × Nat → AV × AV × Nat → Bool
  | (a, b, c), (x, y, z) => AV.eqF 3 a x && (AV.eqF 3 b y && Nat.beq c z)
theorem eqE_eq : ∀ (a b : AV × AV × Nat), eqE a b = true → a = b
  | (a, b, c), (x, y, z), h => by
    simp only [eqE, Bool.and_eq_true] at h
    rw [AV.eqF_eq 3 _ _ h.1, AV.eqF_eq 3 _ _ h.2.1, Nat.eq_of_beq_eq_true h.2.2]
def sameB (a b : Bool) : Bool := match a, b with | true, true => true | false, false => true | _, _ => false
theorem sameB_eq {a b : Bool} (h : sameB a b = true) : a = b := by
  cases a <;> cases b <;> first | rfl | cases h
def eqON : Option Nat → Option Nat → Bool
  | none, none => true
  | some a, some b => Nat.beq a b
  | _, _ => false
theorem eqON_eq {a b : Option Nat} (h : eqON a b = true) : a = b := by
  cases a <;> cases b <;> first | rfl | (cases h; done) | (rw [Nat.eq_of_beq_eq_true h])
def eqB : Blk → Blk → Bool
  | .cells x r p w a t, .cells y q o v b u => allEq eqO x y && (Nat.beq r q && (Nat.beq p o && (sameB w v && (sameB a b && sameB t u))))
  | .map x c, .map y d => allEq eqE x y && Nat.beq c d
  | .iter m a l t, .iter n b k u => eqON m n && (Nat.beq a b && (allEq Nat.beq l k && Nat.beq t u))
  | .obj (.deferred (some [])), .obj (.deferred (some [])) => true
  | .gone, .gone => true
  | _, _ => false
theorem eqB_eq : ∀ (a b : Blk), eqB a b = true → a = b := by
  intro a b h
  unfold eqB at h
  split at h
  · simp only [Bool.and_eq_true] at h
    obtain ⟨h1, h2, h3, h4, h5, h6⟩ := h
    rw [allEq_eq eqO_eq h1, Nat.eq_of_beq_eq_true h2, Nat.eq_of_beq_eq_true h3, sameB_eq h4, sameB_eq h5, sameB_eq h6]
  · simp only [Bool.and_eq_true] at h
    rw [allEq_eq eqE_eq h.1, Nat.eq_of_beq_eq_true h.2]
  · simp only [Bool.and_eq_true] at h
    rw [eqON_eq h.1, Nat.eq_of_beq_eq_true h.2.1, allEq_eq (fun a b e => Nat.eq_of_beq_eq_true e) h.2.2.1, Nat.eq_of_beq_eq_true h.2.2.2]
  · rfl
  · rfl
  · cases h

/-! ### What is written down is among what is known -/
def Trie.sub {α : Type} (f : α → α → Bool) : Trie α → Trie α → Bool
  | .nil, _ => true
  | .node none a b, .nil => Trie.sub f a .nil && Trie.sub f b .nil
  | .node (some _) _ _, .nil => false
  | .node none a b, .node _ c d => Trie.sub f a c && Trie.sub f b d
  | .node (some _) _ _, .node none _ _ => false
  | .node (some x) a b, .node (some y) c d => f x y && (Trie.sub f a c && Trie.sub f b d)
theorem Trie.sub_get {α : Type} {f : α → α → Bool} : ∀ {t u : Trie α}, Trie.sub f t u = true → ∀ {n : Nat} {x : α}, t.get n = some x → ∃ y, u.get n = some y ∧ f x y = true
  | .nil, _, _, n, x, hx => by cases hx
  | .node v a b, u, h, n, x, hx => by
    rw [Trie.get_node] at hx
    cases u with
    | nil =>
      cases v with
      | some y => cases h
      | none =>
        simp only [Trie.sub, Bool.and_eq_true] at h
        split at hx
        · cases hx
        · split at hx
          · obtain ⟨y, hy, _⟩ := Trie.sub_get h.1 hx; cases hy
          · obtain ⟨y, hy, _⟩ := Trie.sub_get h.2 hx; cases hy
    | node v' c d =>
      have key : Trie.sub f a c = true → Trie.sub f b d = true → (n = 0 → v = some x → ∃ y, v' = some y ∧ f x y = true) → ∃ y, (Trie.node v' c d).get n = some y ∧ f x y = true := by
        intro h1 h2 h3
        rw [Trie.get_node]
        split at hx
        · rename_i e; rw [if_pos e]; exact h3 e hx
        · rename_i e
          rw [if_neg e]
          split at hx
          · rename_i e'; rw [if_pos e']; exact Trie.sub_get h1 hx
          · rename_i e'; rw [if_neg e']; exact Trie.sub_get h2 hx
      cases v with
      | none =>
        simp only [Trie.sub, Bool.and_eq_true] at h
        exact key h.1 h.2 (fun _ e => by cases e)
      | some z =>
        cases v' with
        | none => cases h
        | some y =>
          simp only [Trie.sub, Bool.and_eq_true] at h
          exact key h.2.1 h.2.2 (fun _ e => by obtain rfl := Option.some.inj e; exact ⟨y, rfl, h.1⟩)

structure Covers (S1 S : St) : Prop where
  next : S.next ≤ S1.next
  get : ∀ id k, S1.get id = some k → S.get id = some k
def covS (S1 S : St) : Bool := Nat.ble S.next S1.next && Trie.sub eqB S1.h S.h
theorem covS_spec {S1 S : St} (h : covS S1 S = true) : Covers S1 S := by
  simp only [covS, Bool.and_eq_true] at h
  refine ⟨Nat.le_of_ble_eq_true h.1, fun id k hk => ?_⟩
  obtain ⟨y, hy, e⟩ := Trie.sub_get h.2 hk
  rw [eqB_eq _ _ e]
  exact hy
def covF (g f : AFr) : Bool := Nat.beq g.n f.n && (allEq Nat.beq g.d f.d && (sameB g.rd f.rd && (Trie.sub (AV.eqF 3) g.m f.m && Trie.sub (fun _ _ => true) f.m g.m)))
theorem covF_spec {g f : AFr} (h : covF g f = true) : g.n = f.n ∧ g.d = f.d ∧ g.rd = f.rd ∧ ∀ t, g.get t = f.get t := by
  simp only [covF, Bool.and_eq_true] at h
  obtain ⟨h1, h2, h3, h4, h5⟩ := h
  refine ⟨Nat.eq_of_beq_eq_true h1, allEq_eq (fun a b e => Nat.eq_of_beq_eq_true e) h2, sameB_eq h3, fun t => ?_⟩
  unfold AFr.get
  cases hg : g.m.get t with
  | some x =>
    obtain ⟨y, hy, e⟩ := Trie.sub_get h4 hg
    rw [hy, AV.eqF_eq 3 _ _ e]
  | none =>
    cases hf : f.m.get t with
    | none => rfl
    | some y =>
      obtain ⟨x, hx, _⟩ := Trie.sub_get h5 hf
      rw [hg] at hx
      cases hx

section
variable {P : Program} {B : Nat} {w0 w : World} {ρ : Pl} {S S1 : St} {fr : AFr} {a : Act}
theorem Ok.cover (h : Ok S) (c : Covers S1 S) : Ok S1 :=
  ⟨fun id cs root pos wr al hk id' cs' pos' wr' al' tl' hk' => h.tail id cs root pos wr al (c.get _ _ hk) id' cs' pos' wr' al' tl' (c.get _ _ hk'),
    fun id cs root pos wr al hk id' cs' pos' wr' al' hk' => h.uniq id cs root pos wr al (c.get _ _ hk) id' cs' pos' wr' al' (c.get _ _ hk'),
    fun id cs root pos wr tl hk id' cs' pos' wr' al' tl' hk' => h.alone id cs root pos wr tl (c.get _ _ hk) id' cs' pos' wr' al' tl' (c.get _ _ hk'),
    fun id cs root pos wr al tl hk => Nat.lt_of_lt_of_le (h.root id cs root pos wr al tl (c.get _ _ hk)) c.next⟩
theorem R.cover (h : R B w0 ρ S w) (c : Covers S1 S) : R B w0 ρ S1 w :=
  ⟨h.ok.cover c, h.below, h.base, fun id r hr => ⟨Nat.lt_of_lt_of_le (h.dom id r hr).1 c.next, (h.dom id r hr).2⟩, fun id k r hk hr => h.blk id k r (c.get _ _ hk) hr,
    fun id k r hk hr => h.fresh id k r (c.get _ _ hk) hr, fun id k r id' k' r' hk hr hk' hr' => h.sep id k r id' k' r' (c.get _ _ hk) hr (c.get _ _ hk') hr'⟩
theorem Fresh.cover {q : Nat} (h : Fresh ρ S q) (c : Covers S1 S) : Fresh ρ S1 q :=
  ⟨Nat.lt_of_lt_of_le h.lt c.next, h.un, fun j cs pos wr al tl hj => h.rt j cs pos wr al tl (c.get _ _ hj)⟩
theorem Post.cover {S0 : St} {ex : Nat → Prop} {ρ' : Pl} (h : Post B w0 ρ S0 ex ρ' S w) (c : Covers S1 S) : Post B w0 ρ S0 ex ρ' S1 w :=
  ⟨h.sub, h.r.cover c, Nat.le_trans h.next c.next, fun q hq f => (h.fr q hq f).cover c⟩
theorem FR.cover {g : AFr} (h : FR ρ fr a) (hc : g.n = fr.n ∧ g.d = fr.d ∧ g.rd = fr.rd ∧ ∀ t, g.get t = fr.get t) : FR ρ g a :=
  ⟨h.size.trans hc.1.symm, fun t => by rw [hc.2.2.2 t]; exact h.at_ t, by rw [hc.2.1]; exact h.dl⟩
end

/-! ### What two states have in common -/
def Trie.meet {α : Type} (f : α → α → Bool) : Trie α → Trie α → Trie α
  | .node (some x) a b, .node (some y) c d => .node (match f x y with | true => some x | false => none) (Trie.meet f a c) (Trie.meet f b d)
  | .node _ a b, .node _ c d => .node none (Trie.meet f a c) (Trie.meet f b d)
  | _, _ => .nil
def meetS (S T : St) : St := ⟨Trie.meet eqB S.h T.h, match Nat.ble S.next T.next with | true => T.next | false => S.next⟩
def meetAll : St → List (List AV × St) → St
  | S, [] => S
  | S, (_, T) :: r => meetAll (meetS S T) r
end Go.Eng
