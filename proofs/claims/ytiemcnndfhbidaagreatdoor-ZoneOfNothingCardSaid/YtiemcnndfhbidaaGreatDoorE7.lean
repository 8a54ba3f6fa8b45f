/-
  Operations on numbers, strings, comparisons, lengths, ends of slices: carried out alike.
-/
import Derived.Test.YtiemcnndfhbidaaGreatDoorE6
import Derived.Lib.Strings
set_option linter.unusedSimpArgs false
namespace Go.Eng
open Go.RowKit (Below)
variable {P : Program} {B : Nat} {w0 w : World} {ρ : Pl} {S : St} {fr : AFr} {a : Act} {rid : Nat}

theorem run_eqGuard_plain (op : BinOp) (t : TypeId) (x y : Operand) (u v : Value) (h1 : u ≠ .nilIface ∨ v ≠ .nilIface) (h2 : (∀ cs, u ≠ .agg cs) ∨ ∀ cs, v ≠ .agg cs) (w : World) :
    (eqGuard op t x y u v).run P w = .ok () w := by
  unfold eqGuard
  split <;> rw [Sem.run_ite] <;> split <;> first | rfl | skip
  all_goals
    split
    · exact absurd rfl (h1.elim id id)
    · rcases h2 with h | h <;> exact absurd rfl (h _)
    · rfl

theorem bs_append (a b : ByteArray) : bs (a ++ b) = bs a ++ bs b := by simp only [bs, ByteArray.data_append, Array.toList_append, List.map_append]
theorem bs_length (a : ByteArray) : (bs a).length = a.size := by
  show (a.data.toList.map UInt8.toNat).length = a.data.size
  rw [List.length_map]; exact Array.length_toList
theorem toList_eq (s : ByteArray) : s.toList = s.data.toList := Lib.toList_data s
theorem map_toNat_inj : ∀ {a b : List UInt8}, a.map UInt8.toNat = b.map UInt8.toNat → a = b
  | [], [], _ => rfl
  | [], _ :: _, h => by simp at h
  | _ :: _, [], h => by simp at h
  | x :: a, y :: b, h => by
    simp only [List.map_cons, List.cons.injEq] at h
    rw [map_toNat_inj h.2, UInt8.toNat_inj.1 h.1]
theorem bs_beq (a b : ByteArray) : (a.toList == b.toList) = (bs a == bs b) := by
  simp only [toList_eq, bs]
  rw [Bool.eq_iff_iff]
  simp only [beq_iff_eq]
  exact ⟨fun h => by rw [h], map_toNat_inj⟩
theorem bs_less : ∀ (a b : List UInt8), Op.bytesLess a b = natsLess (a.map UInt8.toNat) (b.map UInt8.toNat)
  | [], [] => rfl
  | [], _ :: _ => rfl
  | _ :: _, [] => rfl
  | x :: a, y :: b => by
    have e1 : decide (x < y) = Nat.blt x.toNat y.toNat := by
      rw [Bool.eq_iff_iff]; simp [Nat.blt, UInt8.lt_iff_toNat_lt, Nat.succ_le_iff]
    have e2 : (x == y) = Nat.beq x.toNat y.toNat := by
      rw [Bool.eq_iff_iff]; simp only [beq_iff_eq, Nat.beq_eq]; exact UInt8.toNat_inj.symm
    simp only [Op.bytesLess, List.map_cons, natsLess, bs_less a b, e1, e2]
theorem strBin_sound {op : BinOp} {x y : ByteArray} {v : AV} (h : strBin op (bs x) (bs y) = some v) (w : World) : ∃ u, (Op.stringOp op x y).run P w = .ok u w ∧ V ρ v u := by
  have hl := bs_less x.data.toList y.data.toList
  have hlt : Op.bytesLess x.toList y.toList = natsLess (bs x) (bs y) := by rw [toList_eq, toList_eq]; exact hl
  have heq := bs_beq x y
  cases op <;> simp only [strBin] at h
  case add =>
    split at h
    · rename_i hle
      obtain rfl := Option.some.inj h
      have hle := Nat.le_of_ble_eq_true hle
      rw [bs_length, bs_length] at hle
      refine ⟨.string (x ++ y), ?_, .str (bs_append x y)⟩
      simp only [Op.stringOp, Sem.run_ite]
      rw [if_neg (by simp [IntKind.max, IntKind.signed, IntKind.bits]; omega)]
      rfl
    · cases h
  all_goals first
    | (cases h; done)
    | (obtain rfl := Option.some.inj h
       refine ⟨_, rfl, ?_⟩
       first | (rw [heq]; exact .bool) | (rw [hlt]; exact .bool) | (rw [hlt, heq]; exact .bool))

theorem intBin_sound {op : BinOp} {k : IntKind} {m n : Int} {v : AV} (hs : op ≠ .shl ∧ op ≠ .shr) (h : intBin op k m n = some v) (t : TypeId) : ∃ u, (binOp op t (.int k m) (.int k n)).run P w = .ok u w ∧ V ρ v u := by
  cases op <;> simp only [intBin] at h
  case shl => exact absurd rfl hs.1
  case shr => exact absurd rfl hs.2
  case and =>
    simp only [Option.map_eq_some_iff] at h
    obtain ⟨r, hr, rfl⟩ := h
    exact ⟨_, by simp only [binOp, ne_eq, not_true_eq_false, if_false]; exact bitsF_sound hr P w, .int⟩
  case or =>
    simp only [Option.map_eq_some_iff] at h
    obtain ⟨r, hr, rfl⟩ := h
    exact ⟨_, by simp only [binOp, ne_eq, not_true_eq_false, if_false]; exact bitsF_sound hr P w, .int⟩
  case xor =>
    simp only [Option.map_eq_some_iff] at h
    obtain ⟨r, hr, rfl⟩ := h
    exact ⟨_, by simp only [binOp, ne_eq, not_true_eq_false, if_false]; exact bitsF_sound hr P w, .int⟩
  case quo =>
    split at h
    · cases h
    · rename_i hz
      obtain rfl := Option.some.inj h
      have hz : n ≠ 0 := by simpa using hz
      exact ⟨.int k (k.wrap (m.tdiv n)), by simp [binOp, Op.intDiv, hz], by rw [wrapF_eq]; exact .int⟩
  case rem =>
    split at h
    · cases h
    · rename_i hz
      obtain rfl := Option.some.inj h
      have hz : n ≠ 0 := by simpa using hz
      exact ⟨.int k (m.tmod n), by simp [binOp, Op.intDiv, hz], .int⟩
  all_goals first
    | (cases h; done)
    | (obtain rfl := Option.some.inj h
       exact ⟨_, by simp only [binOp, ne_eq, not_true_eq_false, if_false, Op.intArith, Op.intCmp]; rfl, by first | exact .bool | (rw [wrapF_eq]; exact .int)⟩)

/-! ### Integers of which a little is known -/
theorem linSum_addTs (th : Nat → Nat) (a : Int) (i : Nat) : ∀ (ts : List (Int × Nat)), linSum th (addTs ts a i) = linSum th ts + a * (th i : Int)
  | [] => by simp [addTs, linSum]
  | (b, j) :: r => by
    simp only [addTs]
    split
    · rename_i h
      obtain rfl := Nat.eq_of_beq_eq_true h
      simp only [linSum, Int.add_mul]
      omega
    · simp only [linSum, linSum_addTs th a i r]
      omega
theorem Lin.ev_add (th : Nat → Nat) (L M : Lin) : (L.add M).ev th = L.ev th + M.ev th := by
  have key : ∀ (ts : List (Int × Nat)) (r : List (Int × Nat)), linSum th (ts.foldr (fun p r => addTs r p.1 p.2) r) = linSum th r + linSum th ts := by
    intro ts r
    induction ts with
    | nil => simp [linSum]
    | cons p ts ih =>
      simp only [List.foldr_cons, linSum_addTs, ih, linSum]
      omega
  simp only [Lin.ev, Lin.add, key]
  omega
theorem Lin.ev_neg (th : Nat → Nat) (L : Lin) : L.neg.ev th = - L.ev th := by
  have key : ∀ (ts : List (Int × Nat)), linSum th (ts.map fun p => (0 - p.1, p.2)) = - linSum th ts := by
    intro ts
    induction ts with
    | nil => simp [linSum]
    | cons p ts ih =>
      have e : (0 - p.1) * (th p.2 : Int) = - (p.1 * (th p.2 : Int)) := by rw [Int.zero_sub, Int.neg_mul]
      simp only [List.map_cons, linSum, ih, e]
      omega
  simp only [Lin.ev, Lin.neg, key]
  omega
theorem Lin.ev_sub (th : Nat → Nat) (L M : Lin) : (L.sub M).ev th = L.ev th - M.ev th := by
  rw [Lin.sub, Lin.ev_add, Lin.ev_neg]
  omega
theorem Lin.ev_pos (th : Nat → Nat) {L : Lin} (h : L.pos = true) : 0 ≤ L.ev th := by
  simp only [Lin.pos, Bool.and_eq_true, decide_eq_true_eq] at h
  have key : ∀ (ts : List (Int × Nat)), (ts.all fun p => decide (0 ≤ p.1)) = true → 0 ≤ linSum th ts := by
    intro ts
    induction ts with
    | nil => intro _; simp [linSum]
    | cons p ts ih =>
      intro hh
      simp only [List.all_cons, Bool.and_eq_true, decide_eq_true_eq] at hh
      have h1 := ih hh.2
      have h2 : 0 ≤ p.1 * (th p.2 : Int) := Int.mul_nonneg hh.1 (Int.natCast_nonneg _)
      simp only [linSum]
      omega
  have := key L.ts h.2
  simp only [Lin.ev]
  omega
structure IOk (ρ : Pl) (a : AI) (n : Int) : Prop where
  r : ∀ l h, a.r = some (l, h) → l ≤ n ∧ n ≤ h
  f : ∀ M, a.L = some M → n = M.ev ρ.th
theorem getI_ok {x : AV} {a : AI} {v : Value} (h : getI x = some a) (hv : V ρ x v) : ∃ n, v = .int a.k n ∧ IOk ρ a n := by
  unfold getI at h
  split at h
  · obtain rfl := Option.some.inj h
    cases hv
    rename_i k n
    refine ⟨n, rfl, fun l h e => ?_, fun M e => ?_⟩
    · simp only [Option.some.injEq, Prod.mk.injEq] at e
      obtain ⟨rfl, rfl⟩ := e
      exact ⟨Int.le_refl _, Int.le_refl _⟩
    · obtain rfl := Option.some.inj e
      simp [Lin.ev, linSum]
  · obtain rfl := Option.some.inj h
    cases hv
    rename_i n h3 h1 h2
    refine ⟨n, rfl, fun l h e => ?_, h3⟩
    simp only [Option.some.injEq, Prod.mk.injEq] at e
    obtain ⟨rfl, rfl⟩ := e
    exact ⟨h1, h2⟩
  · obtain rfl := Option.some.inj h
    cases hv
    rename_i hh
    obtain ⟨n, rfl⟩ := hh
    exact ⟨n, rfl, fun l h e => (by cases e), fun M e => (by cases e)⟩
  · cases h
theorem any_int {x : AV} {k : IntKind} {v : Value} (h : anyInt x = some k) (hv : V ρ x v) : ∃ n, v = .int k n := by
  simp only [anyInt, Option.map_eq_some_iff] at h
  obtain ⟨a, ha, rfl⟩ := h
  obtain ⟨n, hn, _⟩ := getI_ok ha hv
  exact ⟨n, hn⟩
theorem leI_ok {a b : AI} {d m n : Int} (h : leI a b d = true) (ha : IOk ρ a m) (hb : IOk ρ b n) : m + d ≤ n := by
  unfold leI at h
  rw [Bool.or_eq_true] at h
  rcases h with h | h
  · split at h
    · rename_i e1 e2
      have := ha.r _ _ e1
      have := hb.r _ _ e2
      have := of_decide_eq_true h
      omega
    · cases h
  · split at h
    · rename_i L M e1 e2
      have h1 := ha.f _ e1
      have h2 := hb.f _ e2
      have h3 := Lin.ev_pos ρ.th h
      rw [Lin.ev_add, Lin.ev_sub] at h3
      simp only [Lin.ev, linSum] at h3 h1 h2
      omega
    · cases h
theorem triB_ok {t f p : Bool} (h1 : t = true → p = true) (h2 : f = true → p = false) : V ρ (triB t f) (.bool p) := by
  unfold triB
  cases t with
  | true => rw [h1 rfl]; exact .bool
  | false =>
    cases f with
    | true => rw [h2 rfl]; exact .bool
    | false => exact .any ⟨_, rfl⟩
theorem cmpI_ok {op : BinOp} {a b : AI} {v : AV} {m n : Int} (h : cmpI op a b = some v) (ha : IOk ρ a m) (hb : IOk ρ b n) : ∃ u, (Op.intCmp op m n).run P w = .ok u w ∧ V ρ v u := by
  have l1 := fun d h => leI_ok (d := d) (ρ := ρ) h ha hb
  have l2 := fun d h => leI_ok (d := d) (ρ := ρ) h hb ha
  unfold cmpI at h
  split at h
  · obtain rfl := Option.some.inj h
    exact ⟨_, rfl, triB_ok (fun h => by have := l1 1 h; simp; omega) (fun h => by have := l2 0 h; simp; omega)⟩
  · obtain rfl := Option.some.inj h
    exact ⟨_, rfl, triB_ok (fun h => by have := l1 0 h; simp; omega) (fun h => by have := l2 1 h; simp; omega)⟩
  · obtain rfl := Option.some.inj h
    exact ⟨_, rfl, triB_ok (fun h => by have := l2 1 h; simp; omega) (fun h => by have := l1 0 h; simp; omega)⟩
  · obtain rfl := Option.some.inj h
    exact ⟨_, rfl, triB_ok (fun h => by have := l2 0 h; simp; omega) (fun h => by have := l1 1 h; simp; omega)⟩
  · obtain rfl := Option.some.inj h
    refine ⟨_, rfl, triB_ok (fun h => ?_) (fun h => ?_)⟩
    · rw [Bool.and_eq_true] at h
      have := l1 0 h.1; have := l2 0 h.2
      simp; omega
    · rw [Bool.or_eq_true] at h
      rcases h with h | h
      · have := l1 1 h; simp; omega
      · have := l2 1 h; simp; omega
  · obtain rfl := Option.some.inj h
    refine ⟨_, rfl, triB_ok (fun h => ?_) (fun h => ?_)⟩
    · rw [Bool.or_eq_true] at h
      rcases h with h | h
      · have := l1 1 h; simp; omega
      · have := l2 1 h; simp; omega
    · rw [Bool.and_eq_true] at h
      have := l1 0 h.1; have := l2 0 h.2
      simp; omega
  · cases h
theorem fits_ok {k : IntKind} {lo hi n : Int} (h : fits k lo hi = true) (h1 : lo ≤ n) (h2 : n ≤ hi) : k.wrap n = n := by
  unfold fits at h
  split at h
  · simp only [Bool.and_eq_true, decide_eq_true_eq] at h
    exact IntWalk.i64_in _ (by omega)
  · simp only [Bool.and_eq_true, decide_eq_true_eq] at h
    simp only [IntKind.wrap, IntKind.bits, IntKind.signed]
    simp
    omega
  · cases h
theorem mkI_ok {k : IntKind} {L : Option Lin} {lo hi n : Int} (h1 : lo ≤ n) (h2 : n ≤ hi) (h3 : ∀ M, L = some M → n = M.ev ρ.th) : V ρ (mkI k L lo hi) (.int k (k.wrap n)) := by
  unfold mkI
  cases h : fits k lo hi with
  | true => rw [fits_ok h h1 h2]; exact .rng h1 h2 h3
  | false => exact .any ⟨_, rfl⟩
theorem lin2_some {f : Lin → Lin → Lin} {a b : Option Lin} {M : Lin} (h : lin2 f a b = some M) : ∃ L K, a = some L ∧ b = some K ∧ M = f L K := by
  unfold lin2 at h
  split at h
  · exact ⟨_, _, rfl, rfl, (Option.some.inj h).symm⟩
  · cases h
theorem fdiv_mono {a b : Int} (k : Nat) (h : a ≤ b) : a.fdiv (2 ^ k) ≤ b.fdiv (2 ^ k) := by
  have hp : (0 : Int) < 2 ^ k := Int.pow_pos (by decide)
  rw [Int.fdiv_eq_ediv_of_nonneg _ (Int.le_of_lt hp), Int.fdiv_eq_ediv_of_nonneg _ (Int.le_of_lt hp)]
  exact Int.ediv_le_ediv hp h
theorem aBinAny_sound {op : BinOp} {x y v : AV} {vx vy : Value} (h : aBinAny op x y = some v) (hx : V ρ x vx) (hy : V ρ y vy) (t : TypeId) :
    (∃ k m, vx = .int k m) ∧ ∃ u, (binOp op t vx vy).run P w = .ok u w ∧ V ρ v u := by
  unfold aBinAny at h
  split at h
  case h_2 => cases h
  rename_i a b ea eb
  obtain ⟨m, rfl, ha⟩ := getI_ok ea hx
  obtain ⟨n, rfl, hb⟩ := getI_ok eb hy
  refine ⟨⟨_, _, rfl⟩, ?_⟩
  have shn : ∀ {c d : Int}, b.r = some (c, d) → (c == d && decide (0 ≤ c)) = true → n = c ∧ ¬ n < 0 := by
    intro c d e h
    simp only [Bool.and_eq_true, beq_iff_eq, decide_eq_true_eq] at h
    have := hb.r _ _ e
    omega
  split at h
  · rename_i c d er
    split at h
    · rename_i lo hi hcd er2
      obtain ⟨rfl, hneg⟩ := shn er hcd
      obtain rfl := Option.some.inj h
      have hr := ha.r _ _ er2
      refine ⟨.int a.k (m.fdiv (2 ^ min n.toNat a.k.bits)), by simp only [binOp, Op.shift, Sem.run_ite, if_neg hneg, Sem.run_pure], ?_⟩
      rw [shrF_eq, shrF_eq]
      have h1 := fdiv_mono (min n.toNat a.k.bits) hr.1
      have h2 := fdiv_mono (min n.toNat a.k.bits) hr.2
      unfold mkI
      split
      · exact .rng h1 h2 (fun M e => by cases e)
      · exact .any ⟨_, rfl⟩
    · rename_i hcd er2
      obtain ⟨rfl, hneg⟩ := shn er hcd
      obtain rfl := Option.some.inj h
      exact ⟨.int a.k (m.fdiv (2 ^ min n.toNat a.k.bits)), by simp only [binOp, Op.shift, Sem.run_ite, if_neg hneg, Sem.run_pure], .any ⟨_, rfl⟩⟩
    · cases h
  · rename_i c d er
    split at h
    · rename_i hcd
      obtain ⟨rfl, hneg⟩ := shn er hcd
      obtain rfl := Option.some.inj h
      exact ⟨_, by simp only [binOp, Op.shift, Sem.run_ite, if_neg hneg, Sem.run_pure]; rfl, .any ⟨_, rfl⟩⟩
    · cases h
  · cases h
  · cases h
  · rename_i n1 n2 n3 n4
    split at h
    case h_2 => cases h
    rename_i hk
    obtain hk : a.k = b.k := by simpa using hk
    rw [← hk]
    split at h
    · split at h
      · rename_i l1 h1 l2 h2 e1 e2
        obtain rfl := Option.some.inj h
        have r1 := ha.r _ _ e1
        have r2 := hb.r _ _ e2
        refine ⟨.int a.k (a.k.wrap (m + n)), by simp [binOp, Op.intArith], mkI_ok (by omega) (by omega) (fun M e => ?_)⟩
        obtain ⟨L, K, f1, f2, rfl⟩ := lin2_some e
        rw [Lin.ev_add, ← ha.f _ f1, ← hb.f _ f2]
      · obtain rfl := Option.some.inj h
        exact ⟨.int a.k (a.k.wrap (m + n)), by simp [binOp, Op.intArith], .any ⟨_, rfl⟩⟩
    · split at h
      · rename_i l1 h1 l2 h2 e1 e2
        obtain rfl := Option.some.inj h
        have r1 := ha.r _ _ e1
        have r2 := hb.r _ _ e2
        refine ⟨.int a.k (a.k.wrap (m - n)), by simp [binOp, Op.intArith], mkI_ok (by omega) (by omega) (fun M e => ?_)⟩
        obtain ⟨L, K, f1, f2, rfl⟩ := lin2_some e
        rw [Lin.ev_sub, ← ha.f _ f1, ← hb.f _ f2]
      · obtain rfl := Option.some.inj h
        exact ⟨.int a.k (a.k.wrap (m - n)), by simp [binOp, Op.intArith], .any ⟨_, rfl⟩⟩
    · obtain rfl := Option.some.inj h
      exact ⟨.int a.k (a.k.wrap (m * n)), by simp [binOp, Op.intArith], .any ⟨_, rfl⟩⟩
    · obtain rfl := Option.some.inj h
      exact ⟨_, by simp only [binOp, ne_eq, not_true_eq_false, if_false, Op.intBits]; rfl, .any ⟨_, rfl⟩⟩
    · obtain rfl := Option.some.inj h
      exact ⟨_, by simp only [binOp, ne_eq, not_true_eq_false, if_false, Op.intBits]; rfl, .any ⟨_, rfl⟩⟩
    · obtain rfl := Option.some.inj h
      exact ⟨_, by simp only [binOp, ne_eq, not_true_eq_false, if_false, Op.intBits]; rfl, .any ⟨_, rfl⟩⟩
    · obtain ⟨u, hu, hvu⟩ := cmpI_ok (P := P) (w := w) h ha hb
      refine ⟨u, ?_, hvu⟩
      unfold cmpI at h
      split at h <;> first | (cases h; done) | (simp only [binOp, ne_eq, not_true_eq_false, if_false]; exact hu)
section
variable {o : Oper} {x y : Operand} {p q : Opd} (hF : FR ρ fr a) (hR : R B w0 ρ S w)
include hF hR

theorem sound_bin {op : BinOp} {t u : TypeId} {v : AV} {S' : St} (ho : o.op = .binOp op t x y u) (hx : cOpd x = some p) (hy : cOpd y = some q)
    (h : aop (.bin op p q) fr.ev rid S = some (v, S')) : Good P B w0 ρ S rid a w o v S' := by
  have h1 := hF.ev hx
  have h2 := hF.ev hy
  simp only [aop, Option.map_eq_some_iff, Prod.mk.injEq] at h
  obtain ⟨v, hv, rfl, rfl⟩ := h
  have hex : ∀ vx vy r, a.eval x = vx → a.eval y = vy → vx ≠ .nilIface → (∀ cs, vx ≠ .agg cs) → (binOp op t vx vy).run P w = .ok r w → (execOp a.eval o).run P w = .ok (.value r) w := by
    intro vx vy r e1 e2 n1 n2 hb
    simp only [execOp, ho, e1, e2]
    refine run_v ?_
    rw [Sem.run_bind, run_eqGuard_plain op t x y vx vy (.inl n1) (.inl n2)]
    exact hb
  unfold aBin at hv
  split at hv
  · rename_i k m k' n e1 e2
    rw [e1] at h1
    rw [e2] at h2
    generalize hvx : a.eval x = vx at h1
    generalize hvy : a.eval y = vy at h2
    cases h1
    cases h2
    split at hv
    · split at hv
      · cases hv
      · rename_i hn
        obtain rfl := Option.some.inj hv
        have hn : ¬ n < 0 := by simpa using hn
        refine good_same hR .int (hex _ _ _ hvx hvy (by simp) (by simp) ?_)
        simp only [binOp, Op.shift, Sem.run_ite, if_neg hn, Sem.run_pure, shlF_eq]
    · split at hv
      · cases hv
      · rename_i hn
        obtain rfl := Option.some.inj hv
        have hn : ¬ n < 0 := by simpa using hn
        refine good_same hR .int (hex _ _ _ hvx hvy (by simp) (by simp) ?_)
        simp only [binOp, Op.shift, Sem.run_ite, if_neg hn, Sem.run_pure, shrF_eq]
    · rename_i n1 n2
      split at hv
      · rename_i hk
        obtain rfl : k = k' := by simpa using hk
        obtain ⟨r, hr, hvr⟩ := intBin_sound (P := P) (ρ := ρ) (w := w) ⟨fun e => n1 e, fun e => n2 e⟩ hv t
        exact good_same hR hvr (hex _ _ _ hvx hvy (by simp) (by simp) hr)
      · cases hv
  · rename_i l m e1 e2
    rw [e1] at h1
    rw [e2] at h2
    generalize hvx : a.eval x = vx at h1
    generalize hvy : a.eval y = vy at h2
    cases h1
    rename_i s1 hs1
    cases h2
    rename_i s2 hs2
    subst hs1 hs2
    obtain ⟨r, hr, hvr⟩ := strBin_sound (P := P) (ρ := ρ) hv w
    refine good_same hR hvr (hex _ _ _ hvx hvy (by simp) (by simp) ?_)
    cases op <;> first | exact hr | (simp [strBin] at hv; done)
  · generalize hvx : a.eval x = vx at h1
    generalize hvy : a.eval y = vy at h2
    obtain ⟨⟨k, m, rfl⟩, u, hu, hvu⟩ := aBinAny_sound (P := P) (w := w) hv h1 h2 t
    exact good_same hR hvu (hex _ _ _ hvx hvy (by simp) (by simp) hu)

theorem sound_un {op : UnOp} {t : TypeId} {v : AV} {S' : St} (ho : o.op = .unOp op t x) (hx : cOpd x = some p)
    (h : aop (.un op p) fr.ev rid S = some (v, S')) : Good P B w0 ρ S rid a w o v S' := by
  have h1 := hF.ev hx
  simp only [aop, Option.map_eq_some_iff, Prod.mk.injEq] at h
  obtain ⟨v, hv, rfl, rfl⟩ := h
  unfold aUn at hv
  split at hv
  · rename_i k n e
    obtain rfl := Option.some.inj hv
    rw [e] at h1
    generalize hvx : a.eval x = vx at h1
    cases h1
    refine good_same hR .int ?_
    simp [execOp, ho, hvx, Op.unary, Op.intArith, wrapF_eq]
  · rename_i n e
    simp only [Option.map_eq_some_iff] at hv
    obtain ⟨r, hr, rfl⟩ := hv
    rw [e] at h1
    generalize hvx : a.eval x = vx at h1
    cases h1
    refine good_same hR .int ?_
    simp only [execOp, ho, hvx]
    refine run_v ?_
    exact bitsF_sound hr P w
  · rename_i b e
    obtain rfl := Option.some.inj hv
    rw [e] at h1
    generalize hvx : a.eval x = vx at h1
    cases h1
    refine good_same hR .bool ?_
    simp [execOp, ho, hvx, Op.unary]
  · rename_i e
    obtain rfl := Option.some.inj hv
    rw [e] at h1
    generalize hvx : a.eval x = vx at h1
    cases h1
    rename_i hh
    obtain ⟨b, rfl⟩ := hh
    exact good_same (x := .bool !b) hR (.any ⟨_, rfl⟩) (by simp [execOp, ho, hvx, Op.unary])
  · simp only [Option.map_eq_some_iff] at hv
    obtain ⟨k, hk, rfl⟩ := hv
    obtain ⟨n, hn⟩ := any_int hk h1
    refine good_same (x := .int k (k.wrap (0 - n))) hR (.any ⟨_, rfl⟩) ?_
    simp [execOp, ho, hn, Op.unary, Op.intArith]
  · simp only [Option.map_eq_some_iff] at hv
    obtain ⟨k, hk, rfl⟩ := hv
    obtain ⟨n, hn⟩ := any_int hk h1
    have hu : ∃ m, (Op.unary .xor (.int k n)).run P w = .ok (.int k m) w := ⟨_, by simp only [Op.unary, Op.intBits]; rfl⟩
    obtain ⟨m, hm⟩ := hu
    refine good_same (x := .int k m) hR (.any ⟨_, rfl⟩) ?_
    simp only [execOp, ho, hn]
    exact run_v hm
  · cases hv
theorem sound_conv {v : AV} {S' : St} {s d : TypeId} {k : IntKind} {ds : TypeDesc} (ho : o.op = .convert s d x) (hs : P.underlying s = some ds) (hd : P.underlying d = some (.int k)) (hx : cOpd x = some p)
    (h : aop (.conv k p) fr.ev rid S = some (v, S')) : Good P B w0 ρ S rid a w o v S' := by
  have hv := hF.ev hx
  simp only [aop] at h
  split at h
  · rename_i k' n e
    obtain ⟨rfl, rfl⟩ := Prod.mk.inj (Option.some.inj h)
    rw [e] at hv
    generalize hvx : a.eval x = vx at hv
    cases hv
    refine good_same hR .int ?_
    simp only [execOp, ho, hvx]
    refine run_v ?_
    simp [convert, run_underlying hs, run_underlying hd, Conv.intToInt, wrapF_eq]
  · split at h
    · rename_i b eb
      obtain ⟨n, hn, hb⟩ := getI_ok eb hv
      have hex : (execOp a.eval o).run P w = .ok (.value (.int k (k.wrap n))) w := by
        simp only [execOp, ho, hn]
        refine run_v ?_
        simp [convert, run_underlying hs, run_underlying hd, Conv.intToInt]
      split at h
      · rename_i lo hi er
        obtain ⟨rfl, rfl⟩ := Prod.mk.inj (Option.some.inj h)
        have hr := hb.r _ _ er
        exact good_same hR (mkI_ok hr.1 hr.2 hb.f) hex
      · obtain ⟨rfl, rfl⟩ := Prod.mk.inj (Option.some.inj h)
        exact good_same hR (.any ⟨_, rfl⟩) hex
    · cases h
end
end Go.Eng
