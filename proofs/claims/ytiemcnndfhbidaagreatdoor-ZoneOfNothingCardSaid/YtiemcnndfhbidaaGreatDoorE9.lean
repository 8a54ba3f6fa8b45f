/-
  The least, the greatest, lengths, structs compared: carried out alike.
-/
import Derived.Test.YtiemcnndfhbidaaGreatDoorE8
import Derived.ChangeKeysEq
set_option linter.unusedSimpArgs false
set_option linter.unusedSectionVars false
namespace Go.Eng
open Go.RowKit (Below)
variable {P : Program} {B : Nat} {w0 w : World} {ρ : Pl} {S : St} {fr : AFr} {a : Act} {rid : Nat}

theorem ivals_sound (hF : FR ρ fr a) : ∀ {xs : List Operand} {ps : List Opd} {l : List (IntKind × Int)}, cOpds xs = some ps → ivals fr.ev ps = some l → xs.map a.eval = l.map fun p => Value.int p.1 p.2
  | [], ps, l, hc, h => by
    simp only [cOpds, Option.some.injEq] at hc
    subst hc
    simp only [ivals, Option.some.injEq] at h
    subst h
    rfl
  | x :: xs, ps, l, hc, h => by
    simp only [cOpds] at hc
    split at hc
    · rename_i p hp
      simp only [Option.map_eq_some_iff] at hc
      obtain ⟨qs, hqs, rfl⟩ := hc
      have hv := hF.ev hp
      simp only [ivals] at h
      split at h
      · rename_i k n e
        simp only [Option.map_eq_some_iff] at h
        obtain ⟨r, hr, rfl⟩ := h
        rw [e] at hv
        generalize hvx : a.eval x = vx at hv
        cases hv
        simp [hvx, ivals_sound hF hqs hr]
      · cases h
    · cases hc
theorem foldMin_sound (k : IntKind) : ∀ (l : List (IntKind × Int)) (n : Int), V ρ (foldMin k n l) (.int k (l.foldl (fun x p => if p.2 < x then p.2 else x) n)) ∧
    ((l.map fun p => Value.int p.1 p.2).foldlM Builtin.min2 (.int k n)).run P w = .ok (.int k (l.foldl (fun x p => if p.2 < x then p.2 else x) n)) w
  | [], n => ⟨.int, rfl⟩
  | (j, m) :: l, n => by
    have e : foldMin k n ((j, m) :: l) = foldMin k (if m < n then m else n) l := by by_cases h : m < n <;> simp [foldMin, h]
    obtain ⟨h1, h2⟩ := foldMin_sound k l (if m < n then m else n)
    refine ⟨by rw [e, List.foldl_cons]; exact h1, ?_⟩
    simp only [List.map_cons, List.foldlM_cons, Builtin.min2, pure_bind, List.foldl_cons]
    exact h2
theorem foldMax_sound (k : IntKind) : ∀ (l : List (IntKind × Int)) (n : Int), V ρ (foldMax k n l) (.int k (l.foldl (fun x p => if p.2 > x then p.2 else x) n)) ∧
    ((l.map fun p => Value.int p.1 p.2).foldlM Builtin.max2 (.int k n)).run P w = .ok (.int k (l.foldl (fun x p => if p.2 > x then p.2 else x) n)) w
  | [], n => ⟨.int, rfl⟩
  | (j, m) :: l, n => by
    have e : foldMax k n ((j, m) :: l) = foldMax k (if m > n then m else n) l := by by_cases h : m > n <;> simp [foldMax, h]
    obtain ⟨h1, h2⟩ := foldMax_sound k l (if m > n then m else n)
    refine ⟨by rw [e, List.foldl_cons]; exact h1, ?_⟩
    simp only [List.map_cons, List.foldlM_cons, Builtin.max2, pure_bind, List.foldl_cons]
    exact h2

theorem leAI {x y : AV} {a b : AI} {u v : Value} (ha : getI x = some a) (hb : getI y = some b) (hu : V ρ x u) (hv : V ρ y v) : ∃ m n, u = .int a.k m ∧ v = .int b.k n ∧ (∀ d, leI a b d = true → m + d ≤ n) ∧ ∀ d, leI b a d = true → n + d ≤ m := by
  obtain ⟨m, e1, h1⟩ := getI_ok ha hu
  obtain ⟨n, e2, h2⟩ := getI_ok hb hv
  exact ⟨m, n, e1, e2, fun d h => leI_ok h h1 h2, fun d h => leI_ok h h2 h1⟩
theorem aMin2_sound {x y z : AV} {u v : Value} (h : aMin2 false x y = some z) (hu : V ρ x u) (hv : V ρ y v) : ∃ r, (Builtin.min2 u v).run P w = .ok r w ∧ V ρ z r := by
  unfold aMin2 at h
  split at h
  case h_2 => cases h
  rename_i a b ea eb
  obtain ⟨m, n, rfl, rfl, h1, h2⟩ := leAI ea eb hu hv
  split at h
  case h_2 => cases h
  rename_i hk
  obtain hk : a.k = b.k := by simpa using hk
  simp only [] at h
  refine ⟨.int a.k (if n < m then n else m), rfl, ?_⟩
  split at h
  · rename_i hl
    obtain rfl := Option.some.inj h
    have := h2 1 hl
    rw [if_pos (by omega), hk]
    exact hv
  · rename_i hl
    obtain rfl := Option.some.inj h
    have := h1 0 hl
    rw [if_neg (by omega)]
    exact hu
  · obtain rfl := Option.some.inj h
    exact .any ⟨_, rfl⟩
theorem aMax2_sound {x y z : AV} {u v : Value} (h : aMin2 true x y = some z) (hu : V ρ x u) (hv : V ρ y v) : ∃ r, (Builtin.max2 u v).run P w = .ok r w ∧ V ρ z r := by
  unfold aMin2 at h
  split at h
  case h_2 => cases h
  rename_i a b ea eb
  obtain ⟨m, n, rfl, rfl, h1, h2⟩ := leAI ea eb hu hv
  split at h
  case h_2 => cases h
  rename_i hk
  obtain hk : a.k = b.k := by simpa using hk
  simp only [] at h
  refine ⟨.int a.k (if n > m then n else m), rfl, ?_⟩
  split at h
  · rename_i hl
    obtain rfl := Option.some.inj h
    have := h1 1 hl
    rw [if_pos (by omega), hk]
    exact hv
  · rename_i hl
    obtain rfl := Option.some.inj h
    have := h2 0 hl
    rw [if_neg (by omega)]
    exact hu
  · obtain rfl := Option.some.inj h
    exact .any ⟨_, rfl⟩
theorem aMinL_sound {mx : Bool} : ∀ {ys : List AV} {vs : List Value} {x z : AV} {u : Value}, aMinL mx x ys = some z → V ρ x u → VL ρ ys vs → ∃ r, (vs.foldlM (match mx with | false => Builtin.min2 | true => Builtin.max2) u).run P w = .ok r w ∧ V ρ z r
  | [], _, x, z, u, h, hu, .nil => by
    obtain rfl := Option.some.inj h
    exact ⟨u, rfl, hu⟩
  | y :: ys, _, x, z, u, h, hu, .cons (v := vv) hv hvs => by
    simp only [aMinL] at h
    split at h
    · rename_i z0 h0
      have : ∃ r, ((match mx with | false => Builtin.min2 | true => Builtin.max2 : Value → Value → Sem Value) u vv).run P w = .ok r w ∧ V ρ z0 r := by
        cases mx with
        | false => exact aMin2_sound h0 hu hv
        | true => exact aMax2_sound h0 hu hv
      obtain ⟨r, hr, hz⟩ := this
      obtain ⟨s, hs, hz'⟩ := aMinL_sound h hz hvs
      refine ⟨s, ?_, hz'⟩
      rw [List.foldlM_cons, Sem.run_bind, hr]
      exact hs
    · cases h

/-- A call of a built-in: what is carried out. -/
theorem exec_builtin {o : Oper} {c : Call} {b : Builtin} {xs : List Operand} (ho : o.op = .call c) (hb : c.callee = .builtin b) (hx : c.args.toList = xs) {s : Sem Value} {x : Value} {w' : World}
    (he : ∀ cs, builtin b c.argTypes o.type cs (xs.map a.eval).toArray = (do Pure.pure (Next.value (← s)))) (h : s.run P w = .ok x w') :
    (execOp a.eval o).run P w = .ok (.value x) w' := by
  have e : c.args.map a.eval = (xs.map a.eval).toArray := by subst hx; exact Array.ext' (by simp)
  simp only [execOp, ho, resolve, hb, e, pure_bind, invoke]
  rw [he]
  simp [h]

theorem aEqs_len : ∀ {ks : List PK} {xs ys : List AV} {b : Bool}, aEqs ks xs ys = some b → xs.length = ks.length ∧ ys.length = ks.length
  | [], [], [], _, _ => ⟨rfl, rfl⟩
  | [], _ :: _, _, _, h => by cases h
  | [], [], _ :: _, _, h => by cases h
  | _ :: _, [], _, _, h => by cases h
  | _ :: _, _ :: _, [], _, h => by cases h
  | k :: ks, x :: xs, y :: ys, b, h => by
    simp only [aEqs] at h
    split at h
    · obtain ⟨h1, h2⟩ := aEqs_len h
      exact ⟨by simp [h1], by simp [h2]⟩
    · split at h
      · rename_i c hc
        obtain ⟨h1, h2⟩ := aEqs_len hc
        exact ⟨by simp [h1], by simp [h2]⟩
      · cases h
    · cases h
theorem aEqs_app : ∀ {ks ks' : List PK} {xs ys xs' ys' : List AV} {b : Bool}, aEqs (ks ++ ks') (xs ++ xs') (ys ++ ys') = some b → xs.length = ks.length → ys.length = ks.length →
    ∃ c c', aEqs ks xs ys = some c ∧ aEqs ks' xs' ys' = some c' ∧ b = (c && c')
  | [], _, [], [], _, _, b, h, _, _ => ⟨true, b, rfl, h, rfl⟩
  | [], _, _ :: _, _, _, _, _, _, h, _ => by cases h
  | [], _, _, _ :: _, _, _, _, _, _, h => by cases h
  | _ :: _, _, [], _, _, _, _, _, h, _ => by cases h
  | _ :: _, _, _, [], _, _, _, _, _, h => by cases h
  | k :: ks, ks', x :: xs, y :: ys, xs', ys', b, h, h1, h2 => by
    simp only [List.cons_append, aEqs] at h ⊢
    have h1 : xs.length = ks.length := by simpa using h1
    have h2 : ys.length = ks.length := by simpa using h2
    split at h
    · rename_i e
      obtain ⟨c, c', k1, k2, k3⟩ := aEqs_app h h1 h2
      exact ⟨c, c', k1, k2, k3⟩
    · rename_i e
      split at h
      · rename_i d hd
        obtain ⟨c, c', k1, k2, k3⟩ := aEqs_app hd h1 h2
        obtain rfl := Option.some.inj h
        exact ⟨false, c', by rw [k1], k2, rfl⟩
      · cases h
    · cases h
/-- A value of a type, and its cells. -/
def OkV (P : Program) (ρ : Pl) (t : TypeId) (x : Value) (xs : List AV) : Prop :=
  VL ρ xs x.cells.toList ∧ (aggT P t = some true → ∃ cs, x = .agg cs) ∧ (aggT P t = some false → x.cells = #[x])
theorem part_ok {t : TypeId} {n off : Nat} {g : Bool} {cs : Array Value} {zs : List AV} (hg : aggT P t = some g) (hn : sizeT P t = some n) (hz : VL ρ zs (cs.toList.drop off)) (hl : n ≤ zs.length) (h1 : g = false → n = 1 ∧ ∀ a v, zs[0]? = some a → V ρ a v → v.cells = #[v]) :
    ∃ u, (∀ w, (part t cs off).run P w = .ok u w) ∧ OkV P ρ t u (zs.take n) := by
  cases g with
  | true =>
    refine ⟨.agg (cs.extract off (off + n)), fun w => by simp [part, run_aggT hg, run_sizeT hn], ?_, fun _ => ⟨_, rfl⟩, fun h => by rw [hg] at h; cases h⟩
    have : (Value.agg (cs.extract off (off + n))).cells.toList = (cs.toList.drop off).take n := by
      simp [Value.cells, Array.toList_extract, List.extract, Nat.add_sub_cancel_left]
    rw [this]
    exact hz.take n
  | false =>
    obtain ⟨rfl, h2⟩ := h1 rfl
    generalize hd : cs.toList.drop off = l at hz
    cases hz with
    | nil => simp at hl
    | cons hv ht =>
      rename_i a v as vs
      have hv0 : cs[off]? = some v := by
        have := congrArg (·[0]?) hd
        simpa using this
      refine ⟨v, fun w => by simp [part, run_aggT hg, hv0], ?_, fun h => (by rw [hg] at h; cases h), fun _ => h2 a v rfl hv⟩
      rw [h2 a v rfl hv]
      exact .one hv
theorem leaf_eq (d : Nat) {t : TypeId} {q : PK} {x y : AV} {u v : Value} {c : Bool} (hq : (match P.underlying t with | some .bool => some .b | some (.int _) => some .i | some .string => some .s | _ => none : Option PK) = some q) (hvu : V ρ x u) (hvv : V ρ y v) (hc : aEq1 q x y = some c) :
    (Op.equalIn (d + 1) t u v).run P w = .ok c w := by
  unfold aEq1 at hc
  split at hc
  · cases hvu; cases hvv
    obtain rfl := Option.some.inj hc
    have : P.underlying t = some .bool := by
      split at hq <;> simp_all
    simp [Op.equalIn, run_underlying this]
  · split at hc
    · rename_i hjk
      cases hvu; cases hvv
      obtain rfl := Option.some.inj hc
      have : ∃ k, P.underlying t = some (.int k) := by
        split at hq <;> simp_all
      obtain ⟨k', hk'⟩ := this
      simp [Op.equalIn, run_underlying hk', eq_of_beq hjk]
    · cases hc
  · split at hc
    · rename_i b1 b2 ea eb
      obtain ⟨m, n, rfl, rfl, h1, h2⟩ := leAI ea eb hvu hvv
      have : ∃ k, P.underlying t = some (.int k) := by
        split at hq <;> simp_all
      obtain ⟨k', hk'⟩ := this
      have hrun : b1.k = b2.k → (Op.equalIn (d + 1) t (.int b1.k m) (.int b2.k n)).run P w = .ok (m == n) w := fun e => by
        rw [← e]
        simp [Op.equalIn, run_underlying hk']
      split at hc
      · rename_i hk hle
        rw [Bool.and_eq_true] at hle
        have g1 := h1 0 hle.1
        have g2 := h2 0 hle.2
        obtain rfl := Option.some.inj hc
        rw [hrun (by simpa using hk)]
        have : m = n := by omega
        simp [this]
      · rename_i hk _ hlt
        rw [Bool.or_eq_true] at hlt
        obtain rfl := Option.some.inj hc
        rw [hrun (by simpa using hk)]
        have : m ≠ n := by
          rcases hlt with hlt | hlt
          · have := h1 1 hlt; omega
          · have := h2 1 hlt; omega
        simp [this]
      · cases hc
    · cases hc
  · cases hvu
    rename_i s1 e1
    cases hvv
    rename_i s2 e2
    subst e1 e2
    obtain rfl := Option.some.inj hc
    have : P.underlying t = some .string := by
      split at hq <;> simp_all
    rw [← bs_beq]
    simp [Op.equalIn, run_underlying this, beq_toListBytes]
  · cases hc
theorem getI_cells {x : AV} {a : AI} {u : Value} (h : getI x = some a) (hv : V ρ x u) : u.cells = #[u] := by
  obtain ⟨n, rfl, _⟩ := getI_ok h hv
  rfl
theorem eq1_cells {q : PK} {x y : AV} {c : Bool} (hc : aEq1 q x y = some c) : (∀ u, V ρ x u → u.cells = #[u]) ∧ ∀ v, V ρ y v → v.cells = #[v] := by
  unfold aEq1 at hc
  split at hc
  · exact ⟨fun u h => (by cases h; rfl), fun u h => (by cases h; rfl)⟩
  · exact ⟨fun u h => (by cases h; rfl), fun u h => (by cases h; rfl)⟩
  · split at hc
    · rename_i b1 b2 ea eb
      exact ⟨fun u h => getI_cells ea h, fun u h => getI_cells eb h⟩
    · cases hc
  · exact ⟨fun u h => (by cases h; rfl), fun u h => (by cases h; rfl)⟩
  · cases hc
theorem flat_agg {d : Nat} {t : TypeId} {ks : List PK} (h : flatK P d t = some ks) : (aggT P t = some true) ∨ (aggT P t = some false ∧ ∃ q, ks = [q] ∧ (match P.underlying t with | some .bool => some .b | some (.int _) => some .i | some .string => some .s | _ => none : Option PK) = some q) := by
  cases d with
  | zero => cases h
  | succ d =>
    simp only [flatK] at h
    unfold aggT
    split at h
    · rename_i hu; obtain rfl := Option.some.inj h; right; rw [hu]; exact ⟨rfl, _, rfl, rfl⟩
    · rename_i hu; obtain rfl := Option.some.inj h; right; rw [hu]; exact ⟨rfl, _, rfl, rfl⟩
    · rename_i hu; obtain rfl := Option.some.inj h; right; rw [hu]; exact ⟨rfl, _, rfl, rfl⟩
    · rename_i hu; left; rw [hu]; rfl
    · rename_i hu; left; rw [hu]; rfl
    · cases h
/-- A part of each of two plain values. -/
theorem two_parts {d : Nat} {t : TypeId} {ks ks' : List PK} {off : Nat} {us vs : Array Value} {xs ys : List AV} {b : Bool} (hk : flatK P d t = some ks) (hn : sizeT P t = some ks.length) (hx : VL ρ xs (us.toList.drop off)) (hy : VL ρ ys (vs.toList.drop off))
    (h : aEqs (ks ++ ks') xs ys = some b) :
    ∃ u v c c', (∀ w, (part t us off).run P w = .ok u w) ∧ (∀ w, (part t vs off).run P w = .ok v w) ∧ OkV P ρ t u (xs.take ks.length) ∧ OkV P ρ t v (ys.take ks.length) ∧
      aEqs ks (xs.take ks.length) (ys.take ks.length) = some c ∧ aEqs ks' (xs.drop ks.length) (ys.drop ks.length) = some c' ∧ b = (c && c') ∧
      VL ρ (xs.drop ks.length) (us.toList.drop (off + ks.length)) ∧ VL ρ (ys.drop ks.length) (vs.toList.drop (off + ks.length)) := by
  obtain ⟨l1, l2⟩ := aEqs_len h
  rw [List.length_append] at l1 l2
  rw [← List.take_append_drop ks.length xs, ← List.take_append_drop ks.length ys] at h
  obtain ⟨c, c', k1, k2, k3⟩ := aEqs_app h (by rw [List.length_take]; omega) (by rw [List.length_take]; omega)
  have hg : ∃ g, aggT P t = some g := by rcases flat_agg hk with h | ⟨h, _⟩ <;> exact ⟨_, h⟩
  obtain ⟨g, hg⟩ := hg
  have one : g = false → ks.length = 1 ∧ (∀ a v, xs[0]? = some a → V ρ a v → v.cells = #[v]) ∧ ∀ a v, ys[0]? = some a → V ρ a v → v.cells = #[v] := by
    rintro rfl
    rcases flat_agg hk with h | ⟨-, q, rfl, -⟩
    · rw [hg] at h; cases h
    · refine ⟨rfl, ?_, ?_⟩
      all_goals
        intro a v ha hv
        match xs, ys, l1, l2, k1 with
        | x :: xs, y :: ys, _, _, k1 =>
          simp only [List.length_cons, List.length_nil, List.take_succ_cons, List.take_zero, aEqs] at k1
          simp at ha
          subst ha
          split at k1
          · rename_i e; first | exact (eq1_cells e).1 v hv | exact (eq1_cells e).2 v hv
          · rename_i e; first | exact (eq1_cells e).1 v hv | exact (eq1_cells e).2 v hv
          · cases k1
  obtain ⟨u, hu, hou⟩ := part_ok (P := P) hg hn hx (by omega) (fun e => ⟨(one e).1, (one e).2.1⟩)
  obtain ⟨v, hv, hov⟩ := part_ok (P := P) hg hn hy (by omega) (fun e => ⟨(one e).1, (one e).2.2⟩)
  refine ⟨u, v, c, c', hu, hv, hou, hov, k1, k2, k3, ?_, ?_⟩
  · rw [← List.drop_drop]; exact hx.drop _
  · rw [← List.drop_drop]; exact hy.drop _
theorem eqT_sound : ∀ (d D : Nat) (t : TypeId) (ks : List PK) (xs ys : List AV) (x y : Value) (b : Bool), d ≤ D → flatK P d t = some ks → OkV P ρ t x xs → OkV P ρ t y ys → aEqs ks xs ys = some b → (Op.equalIn D t x y).run P w = .ok b w
  | 0, _, _, _, _, _, _, _, _, _, h, _, _, _ => by cases h
  | d + 1, 0, _, _, _, _, _, _, _, h, _, _, _, _ => by omega
  | d + 1, D + 1, t, ks, xs, ys, x, y, b, hD, hk, hx, hy, h => by
    have ih := eqT_sound d D
    have hk0 := hk
    simp only [flatK] at hk
    have leaf : ∀ q, ks = [q] → aggT P t = some false → (match P.underlying t with | some .bool => some .b | some (.int _) => some .i | some .string => some .s | _ => none : Option PK) = some q → (Op.equalIn (D + 1) t x y).run P w = .ok b w := by
      rintro q rfl hg hq
      have e1 := hx.2.2 hg
      have e2 := hy.2.2 hg
      have h1 := hx.1
      have h2 := hy.1
      rw [e1] at h1
      rw [e2] at h2
      cases h1 with
      | cons hv1 ht1 =>
        cases ht1
        cases h2 with
        | cons hv2 ht2 =>
          cases ht2
          simp only [aEqs] at h
          split at h
          · rename_i e
            obtain rfl := Option.some.inj h
            exact leaf_eq D hq hv1 hv2 e
          · rename_i e
            obtain rfl := Option.some.inj h
            exact leaf_eq D hq hv1 hv2 e
          · cases h
    split at hk
    · rename_i hu; obtain rfl := Option.some.inj hk; exact leaf _ rfl (by simp [aggT, hu]) (by rw [hu])
    · rename_i hu; obtain rfl := Option.some.inj hk; exact leaf _ rfl (by simp [aggT, hu]) (by rw [hu])
    · rename_i hu; obtain rfl := Option.some.inj hk; exact leaf _ rfl (by simp [aggT, hu]) (by rw [hu])
    · rename_i fields hu
      split at hk
      · cases hk
      · rename_i hs
        obtain ⟨us, rfl⟩ := hx.2.1 (by simp [aggT, hu])
        obtain ⟨vs, rfl⟩ := hy.2.1 (by simp [aggT, hu])
        have hf : P.fieldsOf t = fields := by simp [Program.fieldsOf, hu]
        rw [run_equalIn_struct (P := P) w D t us vs (by rw [hf]; exact hu) hs, hf]
        have key : ∀ (fs : List Field) (k : Nat) (ks : List PK) (xs ys : List AV) (b : Bool), flatFs P (flatK P d) fs k = some ks → VL ρ xs (us.toList.drop k) → VL ρ ys (vs.toList.drop k) → aEqs ks xs ys = some b →
            (Op.eqFields D us vs fs).run P w = .ok b w := by
          intro fs
          induction fs with
          | nil =>
            intro k ks xs ys b hp hx hy h
            simp only [flatFs, Option.some.injEq] at hp
            subst hp
            cases xs <;> cases ys <;> simp only [aEqs] at h
            · obtain rfl := Option.some.inj h
              rfl
            all_goals cases h
          | cons f fs ihf =>
            intro k ks xs ys b hp hx hy h
            simp only [flatFs] at hp
            split at hp
            · rename_i k1 n hk1 hn
              split at hp
              · rename_i ho hname hnk
                simp only [Option.map_eq_some_iff] at hp
                obtain ⟨k2, hk2, rfl⟩ := hp
                have ho := Nat.eq_of_beq_eq_true ho
                have hnk := Nat.eq_of_beq_eq_true hnk
                have hname : f.name ≠ "_" := of_decide_eq_false hname
                subst hnk
                subst ho
                obtain ⟨u, v, c, c', p1, p2, o1, o2, q1, q2, rfl, r1, r2⟩ := two_parts hk1 hn hx hy h
                have hrun := ih f.type k1 _ _ u v c (by omega) hk1 o1 o2 q1
                simp only [Op.eqFields, ne_eq, hname, not_false_eq_true, if_true, Sem.run_bind, p1, p2, Result.andThen, hrun, Sem.run_ite]
                cases c with
                | true => simpa using ihf _ k2 _ _ c' hk2 r1 r2 q2
                | false => simp
              · cases hp
            · cases hp
        exact key fields.toList 0 ks xs ys b hk (by simpa [Value.cells] using hx.1) (by simpa [Value.cells] using hy.1) h
    · rename_i n e hu
      split at hk
      · rename_i k1 i hk1 hi
        split at hk
        · rename_i hsz
          obtain rfl := Option.some.inj hk
          have hsz := Nat.eq_of_beq_eq_true hsz
          obtain ⟨us, rfl⟩ := hx.2.1 (by simp [aggT, hu])
          obtain ⟨vs, rfl⟩ := hy.2.1 (by simp [aggT, hu])
          have hn : sizeT P e = some k1.length := by simp [sizeT, hi, hsz]
          have hcs : P.cellsOf e = k1.length := by simp [Program.cellsOf, hi, hsz]
          rw [run_equalIn_array w D us vs hu hi, hcs]
          have key : ∀ (n k : Nat) (xs ys : List AV) (b : Bool), VL ρ xs (us.toList.drop (k * k1.length)) → VL ρ ys (vs.toList.drop (k * k1.length)) → aEqs (repL k1 n) xs ys = some b →
              (Op.eqItems D e k1.length us vs (List.range' k n)).run P w = .ok b w := by
            intro n
            induction n with
            | zero =>
              intro k xs ys b hx hy h
              simp only [repL] at h
              cases xs <;> cases ys <;> simp only [aEqs] at h
              · obtain rfl := Option.some.inj h
                rfl
              all_goals cases h
            | succ n ihn =>
              intro k xs ys b hx hy h
              simp only [repL] at h
              obtain ⟨u, v, c, c', p1, p2, o1, o2, q1, q2, rfl, r1, r2⟩ := two_parts hk1 hn hx hy h
              have hrun := ih e k1 _ _ u v c (by omega) hk1 o1 o2 q1
              have em : k * k1.length + k1.length = (k + 1) * k1.length := by rw [Nat.succ_mul]
              rw [em] at r1 r2
              rw [List.range'_succ]
              simp only [Op.eqItems, Sem.run_bind, p1, p2, Result.andThen, hrun, Sem.run_ite]
              cases c with
              | true => simpa using ihn (k + 1) _ _ c' r1 r2 q2
              | false => simp
          rw [List.range_eq_range']
          exact key n 0 xs ys b (by simpa [Value.cells] using hx.1) (by simpa [Value.cells] using hy.1) h
        · cases hk
      · cases hk
    · cases hk

section
variable {o : Oper} {x y : Operand} {p q : Opd} (hF : FR ρ fr a) (hR : R B w0 ρ S w)
include hF hR

theorem sound_mn {c : Call} {xs : List Operand} {ps : List Opd} {v : AV} {S' : St} (ho : o.op = .call c) (hb : c.callee = .builtin .min) (hx : c.args.toList = x :: xs) (hp : cOpd x = some p) (hps : cOpds xs = some ps)
    (h : aop (.mn p ps) fr.ev rid S = some (v, S')) : Good P B w0 ρ S rid a w o v S' := by
  have hv := hF.ev hp
  simp only [aop] at h
  split at h
  · rename_i k n l e el
    obtain ⟨rfl, rfl⟩ := Prod.mk.inj (Option.some.inj h)
    rw [e] at hv
    generalize hvx : a.eval x = vx at hv
    cases hv
    obtain ⟨h1, h2⟩ := foldMin_sound (P := P) (w := w) (ρ := ρ) k l n
    refine good_same hR h1 (exec_builtin ho hb hx (fun _ => rfl) ?_)
    simp only [Builtin.min_, List.map_cons, hvx, ivals_sound hF hps el]
    exact h2
  · simp only [Option.map_eq_some_iff, Prod.mk.injEq] at h
    obtain ⟨z, hz, rfl, rfl⟩ := h
    obtain ⟨r, hr, hvr⟩ := aMinL_sound (P := P) (w := w) hz hv (hF.evs hps)
    refine good_same hR hvr (exec_builtin ho hb hx (fun _ => rfl) ?_)
    simp only [Builtin.min_, List.map_cons]
    exact hr
theorem sound_mx {c : Call} {xs : List Operand} {ps : List Opd} {v : AV} {S' : St} (ho : o.op = .call c) (hb : c.callee = .builtin .max) (hx : c.args.toList = x :: xs) (hp : cOpd x = some p) (hps : cOpds xs = some ps)
    (h : aop (.mx p ps) fr.ev rid S = some (v, S')) : Good P B w0 ρ S rid a w o v S' := by
  have hv := hF.ev hp
  simp only [aop] at h
  split at h
  · rename_i k n l e el
    obtain ⟨rfl, rfl⟩ := Prod.mk.inj (Option.some.inj h)
    rw [e] at hv
    generalize hvx : a.eval x = vx at hv
    cases hv
    obtain ⟨h1, h2⟩ := foldMax_sound (P := P) (w := w) (ρ := ρ) k l n
    refine good_same hR h1 (exec_builtin ho hb hx (fun _ => rfl) ?_)
    simp only [Builtin.max_, List.map_cons, hvx, ivals_sound hF hps el]
    exact h2
  · simp only [Option.map_eq_some_iff, Prod.mk.injEq] at h
    obtain ⟨z, hz, rfl, rfl⟩ := h
    obtain ⟨r, hr, hvr⟩ := aMinL_sound (P := P) (w := w) hz hv (hF.evs hps)
    refine good_same hR hvr (exec_builtin ho hb hx (fun _ => rfl) ?_)
    simp only [Builtin.max_, List.map_cons]
    exact hr
theorem sound_len {c : Call} {t : TypeId} {d : TypeDesc} {k : LK} {v : AV} {S' : St} (ho : o.op = .call c) (hb : c.callee = .builtin .len) (hx : c.args.toList = [x]) (ht : c.argTypes[0]? = some t) (hu : P.underlying t = some d)
    (hd : (d = .string ∧ k = .str) ∨ ((∃ e, d = .slice e) ∧ k = .sl) ∨ ((∃ k e, d = .map k e) ∧ k = .m)) (hp : cOpd x = some p)
    (h : aop (.len k p) fr.ev rid S = some (v, S')) : Good P B w0 ρ S rid a w o v S' := by
  have hv := hF.ev hp
  have key : ∀ r, (Builtin.len_ c.argTypes o.type (List.map a.eval [x]).toArray).run P w = .ok r w → (execOp a.eval o).run P w = .ok (.value r) w := fun r hr => exec_builtin ho hb hx (fun _ => rfl) hr
  simp only [aop] at h
  split at h
  · rename_i s e
    rcases hd with ⟨rfl, -⟩ | ⟨-, hk⟩ | ⟨-, hk⟩ <;> first | (cases hk; done) | skip
    obtain ⟨rfl, rfl⟩ := Prod.mk.inj (Option.some.inj h)
    rw [e] at hv
    generalize hvx : a.eval x = vx at hv
    cases hv
    rename_i s hs
    refine good_same hR ?_ (key (goInt s.size) (by simp [Builtin.len_, hvx, ht, run_underlying hu]))
    rw [← hs, bs_length]
    exact .int
  · rename_i e
    rcases hd with ⟨-, hk⟩ | ⟨⟨el, rfl⟩, -⟩ | ⟨-, hk⟩ <;> first | (cases hk; done) | skip
    obtain ⟨rfl, rfl⟩ := Prod.mk.inj (Option.some.inj h)
    rw [e] at hv
    generalize hvx : a.eval x = vx at hv
    cases hv
    exact good_same hR .int (key (goInt 0) (by simp [Builtin.len_, hvx, ht, run_underlying hu]))
  · rename_i i of n kk e
    rcases hd with ⟨-, hk⟩ | ⟨⟨el, rfl⟩, -⟩ | ⟨-, hk⟩ <;> first | (cases hk; done) | skip
    obtain ⟨rfl, rfl⟩ := Prod.mk.inj (Option.some.inj h)
    rw [e] at hv
    generalize hvx : a.eval x = vx at hv
    cases hv
    exact good_same hR .int (key (goInt n) (by simp [Builtin.len_, hvx, ht, run_underlying hu]))
  · rename_i e
    rcases hd with ⟨-, hk⟩ | ⟨⟨el, rfl⟩, -⟩ | ⟨-, hk⟩ <;> first | (cases hk; done) | skip
    obtain ⟨rfl, rfl⟩ := Prod.mk.inj (Option.some.inj h)
    rw [e] at hv
    generalize hvx : a.eval x = vx at hv
    cases hv
    rename_i hh
    obtain ⟨p, n, c, rfl⟩ := hh
    exact good_same hR (.any ⟨_, rfl⟩) (key (goInt n) (by simp [Builtin.len_, hvx, ht, run_underlying hu]))
  · rename_i e
    rcases hd with ⟨rfl, -⟩ | ⟨-, hk⟩ | ⟨-, hk⟩ <;> first | (cases hk; done) | skip
    obtain ⟨rfl, rfl⟩ := Prod.mk.inj (Option.some.inj h)
    rw [e] at hv
    generalize hvx : a.eval x = vx at hv
    cases hv
    rename_i hh
    obtain ⟨s, rfl⟩ := hh
    exact good_same hR (.any ⟨_, rfl⟩) (key (goInt s.size) (by simp [Builtin.len_, hvx, ht, run_underlying hu]))
  · rename_i e
    rcases hd with ⟨-, hk⟩ | ⟨-, hk⟩ | ⟨⟨kt, et, rfl⟩, -⟩ <;> first | (cases hk; done) | skip
    obtain ⟨rfl, rfl⟩ := Prod.mk.inj (Option.some.inj h)
    rw [e] at hv
    generalize hvx : a.eval x = vx at hv
    cases hv
    exact good_same hR .int (key (goInt 0) (by simp [Builtin.len_, hvx, ht, run_underlying hu]))
  · rename_i i e
    rcases hd with ⟨-, hk⟩ | ⟨-, hk⟩ | ⟨⟨kt, et, rfl⟩, -⟩ <;> first | (cases hk; done) | skip
    split at h
    · rename_i es clock hg
      obtain ⟨rfl, rfl⟩ := Prod.mk.inj (Option.some.inj h)
      rw [e] at hv
      generalize hvx : a.eval x = vx at hv
      cases hv
      rename_i r hr
      obtain ⟨ces, hh, hl⟩ := hR.blk i _ r hg hr
      have hlen : ∀ {l : List (AV × AV × Nat)} {es : List MapEntry}, EL ρ l es → l.length = es.length := by
        intro l es h
        induction h with
        | nil => rfl
        | cons _ _ _ _ ih => simp [ih]
      refine good_same hR ?_ (key (goInt ces.size) ?_)
      · rw [hlen hl]
        exact .int
      · simp [Builtin.len_, hvx, ht, run_underlying hu, getObj, Sem.run, hh]
    · cases h
  · cases h
theorem sound_eqs {ks : List PK} {neg : Bool} {op : BinOp} {t u : TypeId} {v : AV} {S' : St} (ho : o.op = .binOp op t x y u) (hop : op = if neg then .neq else .eql)
    (hagg : aggT P t = some true) (hk : flatK P 20 t = some ks) (hg : P.eqGuardType P.depth t = false) (hx : cOpd x = some p) (hy : cOpd y = some q)
    (h : aop (.eqs ks neg p q) fr.ev rid S = some (v, S')) : Good P B w0 ρ S rid a w o v S' := by
  have h1 := hF.ev hx
  have h2 := hF.ev hy
  simp only [aop] at h
  split at h
  · rename_i xs ys e1 e2
    simp only [Option.map_eq_some_iff, Prod.mk.injEq] at h
    obtain ⟨b, hb, rfl, rfl⟩ := h
    rw [e1] at h1
    rw [e2] at h2
    generalize hvx : a.eval x = vx at h1
    generalize hvy : a.eval y = vy at h2
    cases h1
    rename_i us hus
    cases h2
    rename_i vs hvs
    have hrun : (Op.equalIn 10000 t (.agg us.toArray) (.agg vs.toArray)).run P w = .ok b w := by
      exact eqT_sound 20 10000 t ks xs ys _ _ b (by omega) hk ⟨by simpa [Value.cells] using hus, fun _ => ⟨_, rfl⟩, fun h => by rw [hagg] at h; cases h⟩ ⟨by simpa [Value.cells] using hvs, fun _ => ⟨_, rfl⟩, fun h => by rw [hagg] at h; cases h⟩ hb
    have hex : ∀ r, (binOp op t (.agg us.toArray) (.agg vs.toArray)).run P w = .ok r w → (execOp a.eval o).run P w = .ok (.value r) w := by
      intro r hr
      simp only [execOp, ho, hvx, hvy]
      refine run_v ?_
      rw [Sem.run_bind, run_eqGuard_agg w op t x y _ _ hg]
      exact hr
    cases neg with
    | true =>
      subst hop
      refine good_same hR .bool (hex (.bool !b) ?_)
      simp only [if_true]
      rw [run_neq_struct, hrun]
      rfl
    | false =>
      subst hop
      refine good_same hR .bool (hex (.bool b) ?_)
      simp only [Bool.false_eq_true, if_false]
      rw [run_eql_struct, hrun]
      rfl
  · cases h
theorem sound_lenc {c : Call} {n : Nat} {v : AV} {S' : St} (ho : o.op = .call c) (hb : c.callee = .builtin .len) (hx : c.args.toList = [x])
    (ht : (Builtin.len_ c.argTypes o.type (List.map a.eval [x]).toArray).run P w = .ok (goInt n) w)
    (h : aop (.lenc n) fr.ev rid S = some (v, S')) : Good P B w0 ρ S rid a w o v S' := by
  obtain ⟨rfl, rfl⟩ := Prod.mk.inj (Option.some.inj h)
  exact good_same hR .int (exec_builtin ho hb hx (fun _ => rfl) ht)
end
end Go.Eng
