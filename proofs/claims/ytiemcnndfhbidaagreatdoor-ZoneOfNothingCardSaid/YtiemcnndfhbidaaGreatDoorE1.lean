/-
  An abstract evaluator of the model's code: the words (values, blocks, states, compiled operations). No statement about the program here.
-/
import Derived.RowKit3
import Derived.Below
namespace Go.Eng

/-! ### A finite map on numbers -/
inductive Trie (α : Type) where
  | nil
  | node (v : Option α) (l r : Trie α)

namespace Trie
variable {α : Type}
def get : Trie α → Nat → Option α
  | nil, _ => none
  | node v l r, n =>
    match Nat.beq n 0 with
    | true => v
    | false => match Nat.beq (n % 2) 1 with
      | true => l.get (n / 2)
      | false => r.get (n / 2 - 1)
def setF (v : Option α) : Nat → Trie α → Nat → Trie α
  | 0, t, _ => t
  | f + 1, nil, n =>
    match Nat.beq n 0 with
    | true => node v nil nil
    | false => match Nat.beq (n % 2) 1 with
      | true => node none (setF v f nil (n / 2)) nil
      | false => node none nil (setF v f nil (n / 2 - 1))
  | f + 1, node u l r, n =>
    match Nat.beq n 0 with
    | true => node v l r
    | false => match Nat.beq (n % 2) 1 with
      | true => node u (setF v f l (n / 2)) r
      | false => node u l (setF v f r (n / 2 - 1))
def set (t : Trie α) (n : Nat) (v : Option α) : Trie α := setF v (n + 1) t n

theorem get_nil (n : Nat) : (nil : Trie α).get n = none := rfl
theorem get_node (v : Option α) (l r : Trie α) (n : Nat) :
    (node v l r).get n = if n = 0 then v else if n % 2 = 1 then l.get (n / 2) else r.get (n / 2 - 1) := by
  simp only [get]
  by_cases h : n = 0
  · subst h; rfl
  · have h1 : Nat.beq n 0 = false := by
      cases hb : Nat.beq n 0
      · rfl
      · exact absurd (Nat.eq_of_beq_eq_true hb) h
    rw [if_neg h, h1]
    by_cases h2 : n % 2 = 1
    · rw [if_pos h2, h2]
    · have h3 : Nat.beq (n % 2) 1 = false := by
        cases hb : Nat.beq (n % 2) 1
        · rfl
        · exact absurd (Nat.eq_of_beq_eq_true hb) h2
      rw [if_neg h2, h3]
theorem setF_succ (v : Option α) (f : Nat) (t : Trie α) (n : Nat) :
    setF v (f + 1) t n =
      (match t with
       | nil => if n = 0 then node v nil nil else if n % 2 = 1 then node none (setF v f nil (n / 2)) nil else node none nil (setF v f nil (n / 2 - 1))
       | node u l r => if n = 0 then node v l r else if n % 2 = 1 then node u (setF v f l (n / 2)) r else node u l (setF v f r (n / 2 - 1))) := by
  have hb : ∀ m k : Nat, Nat.beq m k = decide (m = k) := fun m k => by
    cases h : Nat.beq m k
    · simp only [false_eq_decide_iff]; intro e; rw [e] at h; simp at h
    · simp only [true_eq_decide_iff]; exact Nat.eq_of_beq_eq_true h
  cases t <;> simp only [setF, hb] <;> by_cases h0 : n = 0 <;> by_cases h1 : n % 2 = 1 <;> simp [h0, h1]
theorem get_setF (v : Option α) : ∀ (f : Nat) (t : Trie α) (n m : Nat), n < f → (setF v f t n).get m = if m = n then v else t.get m := by
  intro f
  induction f with
  | zero => intro t n m h; omega
  | succ f ih =>
    intro t n m h
    rw [setF_succ]
    cases t with
    | nil =>
      simp only [get_nil]
      by_cases h0 : n = 0
      · subst h0
        rw [if_pos rfl, get_node]
        by_cases hm : m = 0
        · simp [hm]
        · simp [hm, get_nil]
      · rw [if_neg h0]
        by_cases h1 : n % 2 = 1
        · rw [if_pos h1, get_node]
          by_cases hm : m = 0
          · rw [if_pos hm, if_neg (by omega)]
          · rw [if_neg hm]
            by_cases hm1 : m % 2 = 1
            · rw [if_pos hm1, ih _ _ _ (by omega), get_nil]
              by_cases e : m = n
              · rw [if_pos (by omega), if_pos e]
              · rw [if_neg (by omega), if_neg e]
            · rw [if_neg hm1, if_neg (by omega), get_nil]
        · rw [if_neg h1, get_node]
          by_cases hm : m = 0
          · rw [if_pos hm, if_neg (by omega)]
          · rw [if_neg hm]
            by_cases hm1 : m % 2 = 1
            · rw [if_pos hm1, if_neg (by omega), get_nil]
            · rw [if_neg hm1, ih _ _ _ (by omega), get_nil]
              by_cases e : m = n
              · rw [if_pos (by omega), if_pos e]
              · rw [if_neg (by omega), if_neg e]
    | node u l r =>
      simp only [get_node]
      by_cases h0 : n = 0
      · subst h0
        rw [if_pos rfl, get_node]
        by_cases hm : m = 0
        · simp [hm]
        · simp [hm]
      · rw [if_neg h0]
        by_cases h1 : n % 2 = 1
        · rw [if_pos h1, get_node]
          by_cases hm : m = 0
          · rw [if_pos hm, if_neg (by omega), if_pos hm]
          · rw [if_neg hm]
            by_cases hm1 : m % 2 = 1
            · rw [if_pos hm1, ih _ _ _ (by omega)]
              by_cases e : m = n
              · rw [if_pos (by omega), if_pos e]
              · rw [if_neg (by omega), if_neg e, if_neg hm, if_pos hm1]
            · rw [if_neg hm1, if_neg (by omega), if_neg hm, if_neg hm1]
        · rw [if_neg h1, get_node]
          by_cases hm : m = 0
          · rw [if_pos hm, if_neg (by omega), if_pos hm]
          · rw [if_neg hm]
            by_cases hm1 : m % 2 = 1
            · rw [if_pos hm1, if_neg (by omega), if_neg hm, if_pos hm1]
            · rw [if_neg hm1, ih _ _ _ (by omega)]
              by_cases e : m = n
              · rw [if_pos (by omega), if_pos e]
              · rw [if_neg (by omega), if_neg e, if_neg hm, if_neg hm1]
theorem get_set (t : Trie α) (n m : Nat) (v : Option α) : (t.set n v).get m = if m = n then v else t.get m := get_setF v _ t n m (by omega)
theorem get_set_self (t : Trie α) (n : Nat) (v : Option α) : (t.set n v).get n = v := by rw [get_set, if_pos rfl]
theorem get_set_ne (t : Trie α) {n m : Nat} (v : Option α) (h : m ≠ n) : (t.set n v).get m = t.get m := by rw [get_set, if_neg h]
def keep (f : α → Bool) : Trie α → Trie α
  | nil => nil
  | node v l r => node (match v with
    | some x => match f x with | true => some x | false => none
    | none => none) (keep f l) (keep f r)
theorem get_keep (f : α → Bool) : ∀ (t : Trie α) (n : Nat), (t.keep f).get n = (t.get n).filter f
  | nil, n => rfl
  | node v l r, n => by
    have e : (node v l r).keep f = node (match v with | some x => (match f x with | true => some x | false => none) | none => none) (keep f l) (keep f r) := rfl
    rw [e, get_node, get_node]
    by_cases h0 : n = 0
    · rw [if_pos h0, if_pos h0]
      cases v with
      | none => rfl
      | some x => cases hx : f x <;> simp [Option.filter, hx]
    · rw [if_neg h0, if_neg h0]
      split
      · exact get_keep f l _
      · exact get_keep f r _
end Trie
end Go.Eng
