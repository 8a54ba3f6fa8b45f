/-
  What an operation touches; operations that touch nothing in common may change places.
-/
import Derived.Test.YtiemcnndfhbidaaGreatDoorE15
set_option linter.unusedSimpArgs false
set_option linter.unusedVariables false
namespace Go.Eng

/-! ### Two writes at two places -/
namespace Trie
variable {α : Type}
theorem setF_fuel (v : Option α) : ∀ (f g : Nat) (t : Trie α) (n : Nat), n < f → n < g → setF v f t n = setF v g t n
  | 0, _, _, _, h, _ => by omega
  | _, 0, _, _, _, h => by omega
  | f + 1, g + 1, t, n, h1, h2 => by
    rw [setF_succ, setF_succ]
    by_cases h0 : n = 0
    · simp [h0]
    · have e1 : ∀ t, setF v f t (n / 2) = setF v g t (n / 2) := fun t => setF_fuel v f g t _ (by omega) (by omega)
      have e2 : ∀ t, setF v f t (n / 2 - 1) = setF v g t (n / 2 - 1) := fun t => setF_fuel v f g t _ (by omega) (by omega)
      simp [h0, e1, e2]
theorem set_node (u : Option α) (l r : Trie α) (n : Nat) (v : Option α) :
    (node u l r).set n v = if n = 0 then node v l r else if n % 2 = 1 then node u (l.set (n / 2) v) r else node u l (r.set (n / 2 - 1) v) := by
  unfold set
  rw [setF_succ]
  by_cases h0 : n = 0
  · simp [h0]
  · simp only [h0, if_false]
    rw [setF_fuel v n (n / 2 + 1) l (n / 2) (by omega) (by omega), setF_fuel v n (n / 2 - 1 + 1) r (n / 2 - 1) (by omega) (by omega)]
theorem set_nil (n : Nat) (v : Option α) : (nil : Trie α).set n v = (node none nil nil).set n v := by
  unfold set
  rw [setF_succ, setF_succ]
theorem set_comm : ∀ (n m : Nat) (t : Trie α) (v w : Option α), n ≠ m → (t.set n v).set m w = (t.set m w).set n v := by
  intro n
  induction n using Nat.strongRecOn with
  | _ n ih =>
    intro m t v w h
    have key : ∀ u l r, ((node u l r).set n v).set m w = ((node u l r).set m w).set n v := by
      intro u l r
      simp only [set_node]
      by_cases n0 : n = 0
      · by_cases m0 : m = 0
        · omega
        · by_cases m1 : m % 2 = 1 <;> simp [n0, m0, m1, set_node]
      · by_cases m0 : m = 0
        · by_cases n1 : n % 2 = 1 <;> simp [n0, m0, n1, set_node]
        · by_cases n1 : n % 2 = 1 <;> by_cases m1 : m % 2 = 1
          · simp [n0, m0, n1, m1, set_node, ih (n / 2) (by omega) (m / 2) l v w (by omega)]
          · simp [n0, m0, n1, m1, set_node]
          · simp [n0, m0, n1, m1, set_node]
          · simp [n0, m0, n1, m1, set_node, ih (n / 2 - 1) (by omega) (m / 2 - 1) r v w (by omega)]
    cases t with
    | nil => rw [set_nil, set_nil, key]
    | node u l r => exact key u l r
end Trie
theorem St.put_comm (S : St) {i j : Nat} (a b : Blk) (h : i ≠ j) : (S.put i a).put j b = (S.put j b).put i a := by
  unfold St.put
  simp only [Trie.set_comm i j S.h (some a) (some b) h]
theorem St.get_put_ne (S : St) {i j : Nat} (k : Blk) (h : j ≠ i) : (S.put i k).get j = S.get j := by rw [St.get_put, if_neg h]

/-! ### What is touched -/
def AV.ids : AV → List Nat
  | .ptr id _ => [id]
  | .sl id _ _ _ => [id]
  | .mp id => [id]
  | _ => []
/-- Depends on memory or changes it. -/
def CI.touch : CI → Bool
  | .alloc _ | .box _ | .buildSl .. | .load .. | .store .. | .append .. | .copy .. | .clear .. | .mkmap | .lookup .. | .mapset .. | .del .. | .b2s _ | .s2b _ | .mkslice .. => true
  | .len .m _ => true
  | .range _ | .next _ | .entry _ | .call .. => true
  | _ => false
/-- Not to be moved. -/
def CI.wild : CI → Bool
  | .range _ | .next _ | .entry _ | .call .. => true
  | _ => false
/-- What may be read or changed. -/
def CI.foot (ci : CI) (ev : Opd → AV) (rid : Nat) : List Nat :=
  match ci with
  | .alloc _ | .box _ | .buildSl .. | .mkmap | .s2b _ | .mkslice .. => [rid]
  | .load _ _ a => (ev a).ids
  | .store _ a _ => (ev a).ids
  | .append _ _ _ s x => rid :: ((ev s).ids ++ (ev x).ids)
  | .copy _ d s => (ev d).ids ++ (ev s).ids
  | .clear _ x => (ev x).ids
  | .len _ x => (ev x).ids
  | .lookup _ _ _ m _ => (ev m).ids
  | .mapset _ m _ _ => (ev m).ids
  | .del _ m _ => (ev m).ids
  | .b2s x => (ev x).ids
  | _ => []
/-- What may be changed. -/
def CI.wfoot (ci : CI) (ev : Opd → AV) (rid : Nat) : List Nat :=
  match ci with
  | .alloc _ | .box _ | .buildSl .. | .mkmap | .s2b _ | .mkslice .. => [rid]
  | .store _ a _ => (ev a).ids
  | .append _ _ _ s _ => rid :: (ev s).ids
  | .copy _ d _ => (ev d).ids
  | .clear _ x => (ev x).ids
  | .mapset _ m _ _ => (ev m).ids
  | .del _ m _ => (ev m).ids
  | _ => []

def With (k : St → St) : Option (AV × St) → Option (AV × St)
  | none => none
  | some (v, S) => some (v, k S)

theorem rowAt_put {S : St} {id j : Nat} (k : Blk) (off n : Nat) (h : j ≠ id) : rowAt (S.put id k) j off n = rowAt S j off n := by
  unfold rowAt
  rw [St.get_put_ne _ _ h]
theorem elems_put {S : St} {id : Nat} (k : Blk) (sz : Nat) (v : AV) (h : id ∉ v.ids) : elems (S.put id k) sz v = elems S sz v := by
  unfold elems
  split <;> first | rfl | skip
  rename_i j off len cap
  rw [rowAt_put]
  rintro rfl
  exact h (by simp [AV.ids])
theorem writeAt_put {S : St} {id j : Nat} (k : Blk) (off : Nat) (vs : List AV) (h : j ≠ id) : writeAt (S.put id k) j off vs = (writeAt S j off vs).map (·.put id k) := by
  unfold writeAt
  rw [St.get_put_ne _ _ h]
  split
  · cases setCellsAt _ off vs with
    | none => rfl
    | some cs' => simp [St.put_comm _ _ _ h]
  · rfl
theorem newRow_put {S : St} {id rid : Nat} (k : Blk) (cs : List AV) (h : rid ≠ id) : newRow (S.put id k) rid cs = (newRow S rid cs).put id k := by
  unfold newRow
  rw [St.put_comm _ _ _ h]
theorem mapOf_put {S : St} {id : Nat} (k : Blk) (v : AV) (h : id ∉ v.ids) : mapOf (S.put id k) v = mapOf S v := by
  unfold mapOf
  split <;> first | rfl | skip
  rename_i j
  rw [St.get_put_ne]
  rintro rfl
  exact h (by simp [AV.ids])

theorem aAppend_put {S : St} {id rid : Nat} (k : Blk) (sz bytes : Nat) (s x : AV) (h1 : rid ≠ id) (h2 : id ∉ s.ids) (h3 : id ∉ x.ids) :
    aAppend (S.put id k) rid sz bytes s x = With (·.put id k) (aAppend S rid sz bytes s x) := by
  unfold aAppend
  rw [elems_put k sz x h3]
  split
  · rfl
  · split
    · rfl
    · split
      · split
        · rfl
        · split
          · simp [With, newRow_put k _ h1]
          · rfl
      · split
        · rfl
        · rename_i j off len cap _ n _
          have hj : j ≠ id := by rintro rfl; exact h2 (by simp [AV.ids])
          rw [St.get_put_ne _ _ hj]
          split
          · split
            · split
              · split
                · split
                  · cases setCellsAt _ _ _ with
                    | none => rfl
                    | some cs' => simp [With, St.put_comm _ _ _ hj]
                  · rfl
                · simp [With, newRow_put k _ h1]
              · split
                · simp [With, St.put_comm _ _ _ h1, St.put_comm _ _ _ hj]
                · rfl
            · rfl
          · rfl
      · rfl

/-- An operation that does not touch memory: the same of every state. -/
theorem aop_pure {ci : CI} (ev : Opd → AV) (rid : Nat) (ht : ci.touch = false) : ∃ r : Option AV, ∀ S, aop ci ev rid S = r.map (·, S) := by
  refine ⟨(aop ci ev rid ⟨.nil, 0⟩).map (·.1), fun S => ?_⟩
  cases ci <;> first | (cases ht; done) | skip
  case len kk x =>
    cases kk <;> first | (cases ht; done) | skip
    all_goals (simp only [aop]; split <;> first | rfl | (rename_i h _ _; cases h; done) | (rename_i h _; cases h; done) | (split <;> rfl))
  all_goals (simp only [aop, Option.map_map, Function.comp_def])
  all_goals first
    | rfl
    | (split <;> first | rfl | (simp only [Option.map_map, Function.comp_def]; done) | (split <;> first | rfl | (split <;> first | rfl | (split <;> rfl))))
theorem aop_put {ci : CI} {ev : Opd → AV} {rid id : Nat} {S : St} (k : Blk) (hw : ci.wild = false) (hid : id ∉ ci.foot ev rid) :
    aop ci ev rid (S.put id k) = With (·.put id k) (aop ci ev rid S) := by
  by_cases ht : ci.touch = false
  · obtain ⟨r, hr⟩ := aop_pure ev rid ht
    rw [hr, hr]
    cases r <;> rfl
  cases ci
  case range | next | entry | call => cases hw
  case alloc z =>
    have h : rid ≠ id := by rintro rfl; exact hid (by simp [CI.foot])
    simp only [aop, St.get_put_ne _ _ h]
    split
    · simp [With, newRow_put k _ h]
    · split <;> rfl
    · rfl
  case box x =>
    have h : rid ≠ id := by rintro rfl; exact hid (by simp [CI.foot])
    simp [aop, With, newRow_put k _ h]
  case buildSl len z ps =>
    have h : rid ≠ id := by rintro rfl; exact hid (by simp [CI.foot])
    simp only [aop]
    cases aFill z ev ps with
    | none => rfl
    | some cs =>
      simp only [layRow, St.get_put_ne _ _ h]
      split
      · simp [With, newRow_put k _ h]
      · split <;> rfl
      · rfl
  case mkmap =>
    have h : rid ≠ id := by rintro rfl; exact hid (by simp [CI.foot])
    simp [aop, With, St.put_comm _ _ _ h]
  case s2b x =>
    have h : rid ≠ id := by rintro rfl; exact hid (by simp [CI.foot])
    simp only [aop]
    split
    · simp [With, newRow_put k _ h]
    · rfl
  case mkslice sz bytes z l c =>
    have h : rid ≠ id := by rintro rfl; exact hid (by simp [CI.foot])
    simp only [aop]
    split
    · split
      · simp [With, newRow_put k _ h]
      · rfl
    · rfl
  case load ag n a =>
    simp only [aop]
    split
    · rename_i j off e
      have hj : j ≠ id := by rintro rfl; exact hid (by simp [CI.foot, e, AV.ids])
      rw [rowAt_put _ _ _ hj, rowAt_put _ _ _ hj]
      split
      · cases rowAt S j off n <;> rfl
      · split <;> rfl
    · rfl
  case store n a x =>
    simp only [aop]
    split
    · rename_i j off e
      have hj : j ≠ id := by rintro rfl; exact hid (by simp [CI.foot, e, AV.ids])
      rw [writeAt_put _ _ _ hj]
      split
      · cases writeAt S j off (ev x).cells <;> rfl
      · rfl
    · rfl
  case append sz bytes z s x =>
    simp only [aop]
    simp only [CI.foot, List.mem_cons, List.mem_append, not_or] at hid
    exact aAppend_put k sz bytes _ _ (Ne.symm hid.1) hid.2.1 hid.2.2
  case copy sz d s =>
    simp only [CI.foot, List.mem_append, not_or] at hid
    simp only [aop]
    split
    · rename_i j off len cap e
      have hj : j ≠ id := by rintro rfl; exact hid.1 (by simp [e, AV.ids])
      rw [elems_put k sz _ hid.2]
      split
      · split
        · rfl
        · rw [writeAt_put _ _ _ hj]
          cases writeAt S j off _ <;> rfl
      · rfl
    · rw [elems_put k sz _ hid.2]
      split <;> rfl
    · rfl
  case clear z x =>
    simp only [aop]
    split
    · rfl
    · rename_i j off len cap e
      have hj : j ≠ id := by rintro rfl; exact hid (by simp [CI.foot, e, AV.ids])
      split
      · rfl
      · rw [writeAt_put _ _ _ hj]
        cases writeAt S j off _ <;> rfl
    · rfl
  case len kk x =>
    simp only [aop]
    split <;> first | rfl | skip
    rename_i j e
    have hj : j ≠ id := by rintro rfl; exact hid (by simp [CI.foot, e, AV.ids])
    rw [St.get_put_ne _ _ hj]
    split <;> rfl
  case lookup kk ok z m key =>
    simp only [aop]
    rw [mapOf_put k _ hid]
    split
    · split <;> rfl
    · rfl
  case mapset kk m key u =>
    simp only [aop]
    split
    · rename_i j e1 e2
      have hj : j ≠ id := by rintro rfl; exact hid (by simp [CI.foot, e2, AV.ids])
      rw [St.get_put_ne _ _ hj]
      split
      · split
        · rfl
        · simp [With, St.put_comm _ _ _ hj]
        · simp [With, St.put_comm _ _ _ hj]
      · rfl
    · rfl
  case del kk m key =>
    simp only [aop]
    split
    · rfl
    · rename_i j e1 e2
      have hj : j ≠ id := by rintro rfl; exact hid (by simp [CI.foot, e2, AV.ids])
      rw [St.get_put_ne _ _ hj]
      split
      · split
        · rfl
        · rfl
        · simp [With, St.put_comm _ _ _ hj]
      · rfl
    · rfl
  case b2s x =>
    simp only [aop]
    split
    · rfl
    · rename_i j off len cap e
      have hj : j ≠ id := by rintro rfl; exact hid (by simp [CI.foot, e, AV.ids])
      rw [rowAt_put _ _ _ hj]
      split
      · split <;> rfl
      · rfl
    · rfl
  all_goals exact absurd rfl ht

def St.puts (S : St) : List (Nat × Blk) → St
  | [] => S
  | p :: l => (S.put p.1 p.2).puts l
theorem St.puts_put : ∀ (l : List (Nat × Blk)) (S : St) (id : Nat) (k : Blk), (∀ p ∈ l, p.1 ≠ id) → (S.put id k).puts l = (S.puts l).put id k
  | [], _, _, _, _ => rfl
  | p :: l, S, id, k, h => by
    simp only [St.puts]
    rw [St.put_comm _ _ _ (Ne.symm (h p List.mem_cons_self)), St.puts_put l _ _ _ (fun q hq => h q (List.mem_cons_of_mem _ hq))]
theorem St.puts_puts : ∀ (l m : List (Nat × Blk)) (S : St), (∀ p ∈ l, ∀ q ∈ m, p.1 ≠ q.1) → (S.puts l).puts m = (S.puts m).puts l
  | [], _, _, _ => rfl
  | p :: l, m, S, h => by
    simp only [St.puts]
    rw [St.puts_puts l m _ (fun a ha => h a (List.mem_cons_of_mem _ ha)), St.puts_put m S p.1 p.2 (fun q hq => Ne.symm (h p List.mem_cons_self q hq))]
theorem aop_puts {ci : CI} {ev : Opd → AV} {rid : Nat} (hw : ci.wild = false) : ∀ (l : List (Nat × Blk)) (S : St), (∀ p ∈ l, p.1 ∉ ci.foot ev rid) → aop ci ev rid (S.puts l) = With (·.puts l) (aop ci ev rid S)
  | [], S, _ => by simp only [St.puts]; cases aop ci ev rid S <;> rfl
  | p :: l, S, h => by
    simp only [St.puts]
    rw [aop_puts hw l _ (fun q hq => h q (List.mem_cons_of_mem _ hq)), aop_put p.2 hw (h p List.mem_cons_self)]
    cases aop ci ev rid S <;> rfl

/-- What an operation leaves: some blocks of its own are written. -/
def Eff (S S' : St) (ids : List Nat) : Prop := ∃ l, S' = S.puts l ∧ ∀ p ∈ l, p.1 ∈ ids
theorem Eff.same (S : St) (ids : List Nat) : Eff S S ids := ⟨[], rfl, by simp⟩
theorem Eff.one (S : St) {id : Nat} {k : Blk} {ids : List Nat} (h : id ∈ ids) : Eff S (S.put id k) ids := ⟨[(id, k)], rfl, by simpa using h⟩
theorem Eff.two (S : St) {i j : Nat} {k q : Blk} {ids : List Nat} (h : i ∈ ids) (h' : j ∈ ids) : Eff S ((S.put i k).put j q) ids := ⟨[(i, k), (j, q)], rfl, by simp [h, h']⟩
theorem writeAt_eff {S S' : St} {id off : Nat} {vs : List AV} {ids : List Nat} (h : writeAt S id off vs = some S') (hi : id ∈ ids) : Eff S S' ids := by
  unfold writeAt at h
  split at h
  · simp only [Option.map_eq_some_iff] at h
    obtain ⟨cs', _, rfl⟩ := h
    exact .one _ hi
  · cases h
theorem aAppend_eff {S S' : St} {rid sz bytes : Nat} {s x v : AV} {ids : List Nat} (h : aAppend S rid sz bytes s x = some (v, S')) (hr : rid ∈ ids) (hs : ∀ j ∈ s.ids, j ∈ ids) : Eff S S' ids := by
  unfold aAppend at h
  split at h
  · cases h
  · split at h
    · cases h
    · split at h
      · split at h
        · obtain ⟨rfl, rfl⟩ := Prod.mk.inj (Option.some.inj h); exact .same _ _
        · split at h
          · obtain ⟨rfl, rfl⟩ := Prod.mk.inj (Option.some.inj h); exact .one _ hr
          · cases h
      · rename_i j off len cap
        have hj : j ∈ ids := hs j (by simp [AV.ids])
        split at h
        · obtain ⟨rfl, rfl⟩ := Prod.mk.inj (Option.some.inj h); exact .same _ _
        · split at h
          · split at h
            · split at h
              · split at h
                · split at h
                  · simp only [Option.map_eq_some_iff, Prod.mk.injEq] at h
                    obtain ⟨cs', _, _, rfl⟩ := h
                    exact .one _ hj
                  · cases h
                · obtain ⟨rfl, rfl⟩ := Prod.mk.inj (Option.some.inj h); exact .one _ hr
              · split at h
                · obtain ⟨rfl, rfl⟩ := Prod.mk.inj (Option.some.inj h); exact .two _ hj hr
                · cases h
            · cases h
          · cases h
      · cases h
theorem aop_eff {ci : CI} {ev : Opd → AV} {rid : Nat} {S S' : St} {v : AV} (hw : ci.wild = false) (h : aop ci ev rid S = some (v, S')) : Eff S S' (ci.wfoot ev rid) := by
  by_cases ht : ci.touch = false
  · obtain ⟨r, hr⟩ := aop_pure ev rid ht
    rw [hr, Option.map_eq_some_iff] at h
    obtain ⟨u, _, e⟩ := h
    obtain ⟨rfl, rfl⟩ := Prod.mk.inj e
    exact .same _ _
  cases ci
  case range | next | entry | call => cases hw
  case alloc z =>
    simp only [aop] at h
    split at h
    · obtain ⟨rfl, rfl⟩ := Prod.mk.inj (Option.some.inj h); exact .one _ (by simp [CI.wfoot])
    · split at h
      · obtain ⟨rfl, rfl⟩ := Prod.mk.inj (Option.some.inj h); exact .same _ _
      · cases h
    · cases h
  case box x => obtain ⟨rfl, rfl⟩ := Prod.mk.inj (Option.some.inj h); exact .one _ (by simp [CI.wfoot])
  case buildSl len z ps =>
    simp only [aop] at h
    split at h
    · simp only [Option.map_eq_some_iff, Prod.mk.injEq] at h
      obtain ⟨T, hT, _, rfl⟩ := h
      unfold layRow at hT
      split at hT
      · obtain rfl := Option.some.inj hT
        exact .one _ (by simp [CI.wfoot])
      · split at hT
        · obtain rfl := Option.some.inj hT
          exact .same _ _
        · cases hT
      · cases hT
    · cases h
  case mkmap => obtain ⟨rfl, rfl⟩ := Prod.mk.inj (Option.some.inj h); exact .one _ (by simp [CI.wfoot])
  case s2b x =>
    simp only [aop] at h
    split at h
    · obtain ⟨rfl, rfl⟩ := Prod.mk.inj (Option.some.inj h); exact .one _ (by simp [CI.wfoot])
    · cases h
  case mkslice sz bytes z l c =>
    simp only [aop] at h
    split at h
    · split at h
      · obtain ⟨rfl, rfl⟩ := Prod.mk.inj (Option.some.inj h); exact .one _ (by simp [CI.wfoot])
      · cases h
    · cases h
  case load ag n a =>
    simp only [aop] at h
    split at h
    · split at h
      · simp only [Option.map_eq_some_iff, Prod.mk.injEq] at h
        obtain ⟨cs, _, _, rfl⟩ := h
        exact .same _ _
      · split at h
        · obtain ⟨rfl, rfl⟩ := Prod.mk.inj (Option.some.inj h); exact .same _ _
        · cases h
    · cases h
  case store n a x =>
    simp only [aop] at h
    split at h
    · rename_i j off e
      split at h
      · simp only [Option.map_eq_some_iff, Prod.mk.injEq] at h
        obtain ⟨T, hT, _, rfl⟩ := h
        exact writeAt_eff hT (by simp [CI.wfoot, e, AV.ids])
      · cases h
    · cases h
  case append sz bytes z s x =>
    simp only [aop] at h
    exact aAppend_eff h (by simp [CI.wfoot]) (fun j hj => by simp [CI.wfoot, hj])
  case copy sz d s =>
    simp only [aop] at h
    split at h
    · rename_i j off len cap e
      split at h
      · split at h
        · obtain ⟨rfl, rfl⟩ := Prod.mk.inj (Option.some.inj h); exact .same _ _
        · split at h
          · rename_i T hT
            obtain ⟨rfl, rfl⟩ := Prod.mk.inj (Option.some.inj h)
            exact writeAt_eff hT (by simp [CI.wfoot, e, AV.ids])
          · cases h
      · cases h
    · split at h
      · obtain ⟨rfl, rfl⟩ := Prod.mk.inj (Option.some.inj h); exact .same _ _
      · cases h
    · cases h
  case clear z x =>
    simp only [aop] at h
    split at h
    · obtain ⟨rfl, rfl⟩ := Prod.mk.inj (Option.some.inj h); exact .same _ _
    · rename_i j off len cap e
      split at h
      · obtain ⟨rfl, rfl⟩ := Prod.mk.inj (Option.some.inj h); exact .same _ _
      · simp only [Option.map_eq_some_iff, Prod.mk.injEq] at h
        obtain ⟨T, hT, _, rfl⟩ := h
        exact writeAt_eff hT (by simp [CI.wfoot, e, AV.ids])
    · cases h
  case len kk x =>
    simp only [aop] at h
    split at h <;> first | (cases h; done) | (obtain ⟨rfl, rfl⟩ := Prod.mk.inj (Option.some.inj h); exact .same _ _) | skip
    split at h
    · obtain ⟨rfl, rfl⟩ := Prod.mk.inj (Option.some.inj h); exact .same _ _
    · cases h
  case lookup kk ok z m key =>
    simp only [aop] at h
    split at h
    · split at h
      · cases h
      · obtain ⟨rfl, rfl⟩ := Prod.mk.inj (Option.some.inj h); exact .same _ _
      · obtain ⟨rfl, rfl⟩ := Prod.mk.inj (Option.some.inj h); exact .same _ _
    · cases h
  case mapset kk m key u =>
    simp only [aop] at h
    split at h
    · rename_i j e1 e2
      split at h
      · split at h
        · cases h
        · obtain ⟨rfl, rfl⟩ := Prod.mk.inj (Option.some.inj h); exact .one _ (by simp [CI.wfoot, e2, AV.ids])
        · obtain ⟨rfl, rfl⟩ := Prod.mk.inj (Option.some.inj h); exact .one _ (by simp [CI.wfoot, e2, AV.ids])
      · cases h
    · cases h
  case del kk m key =>
    simp only [aop] at h
    split at h
    · obtain ⟨rfl, rfl⟩ := Prod.mk.inj (Option.some.inj h); exact .same _ _
    · rename_i j e1 e2
      split at h
      · split at h
        · cases h
        · obtain ⟨rfl, rfl⟩ := Prod.mk.inj (Option.some.inj h); exact .same _ _
        · obtain ⟨rfl, rfl⟩ := Prod.mk.inj (Option.some.inj h); exact .one _ (by simp [CI.wfoot, e2, AV.ids])
      · cases h
    · cases h
  case b2s x =>
    simp only [aop] at h
    split at h
    · obtain ⟨rfl, rfl⟩ := Prod.mk.inj (Option.some.inj h); exact .same _ _
    · split at h
      · split at h
        · obtain ⟨rfl, rfl⟩ := Prod.mk.inj (Option.some.inj h); exact .same _ _
        · cases h
      · cases h
    · cases h
  all_goals exact absurd rfl ht

/-- Two operations change places. -/
theorem aop_swap {c d : CI} {ev ev' : Opd → AV} {r r' : Nat} {S T U : St} {v v' : AV} (hc : c.wild = false) (hd : d.wild = false)
    (h1 : ∀ i ∈ c.wfoot ev r, i ∉ d.foot ev' r') (h2 : ∀ i ∈ d.wfoot ev' r', i ∉ c.foot ev r) (h3 : ∀ i ∈ c.wfoot ev r, i ∉ d.wfoot ev' r')
    (hS : aop c ev r S = some (v, T)) (hT : aop d ev' r' T = some (v', U)) : ∃ T', aop d ev' r' S = some (v', T') ∧ aop c ev r T' = some (v, U) := by
  obtain ⟨l, rfl, hl⟩ := aop_eff hc hS
  rw [aop_puts hd l S (fun p hp => h1 _ (hl p hp))] at hT
  cases hd' : aop d ev' r' S with
  | none => rw [hd'] at hT; cases hT
  | some q =>
    obtain ⟨u, T'⟩ := q
    rw [hd'] at hT
    obtain ⟨rfl, rfl⟩ := Prod.mk.inj (Option.some.inj hT)
    refine ⟨T', rfl, ?_⟩
    obtain ⟨m, rfl, hm⟩ := aop_eff hd hd'
    rw [aop_puts hc m S (fun p hp => h2 _ (hm p hp)), hS]
    simp only [With, Option.some.injEq, Prod.mk.injEq, true_and]
    exact St.puts_puts l m S (fun p hp q hq e => h3 _ (hl p hp) (e ▸ hm q hq))
end Go.Eng
