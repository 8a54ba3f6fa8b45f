/-
  Operations on numbers, strings, comparisons, lengths, ends of slices: carried out alike.
-/
import Derived.Test.YtdlhdgdkljkofaaGreatE6
import Derived.Lib.Strings
set_option linter.unusedSimpArgs false
namespace Go.Eng
open Go.RowKit (Below)
variable {P : Program} {B : Nat} {w0 w : World} {ρ : Pl} {S : St} {fr : AFr} {a : Act} {rid : Nat}

theorem run_eqGuard_plain (op : BinOp) (t : TypeId) (x y : Operand) (u v : Value) (h1 : u ≠ .nilIface ∨ v ≠ .nilIface) (h2 : (∀ cs, u ≠ .agg cs) ∨ ∀ cs, v ≠ .agg cs) (w : World) :
    (eqGuard op t x y u v).run P w = .ok () w := by
  unfold eqGuard
  split <;> rw [Sem.run_ite] <;> split <;> first | rfl | skip
  all_goals
    split
    · exact absurd rfl (h1.elim id id)
    · rcases h2 with h | h <;> exact absurd rfl (h _)
    · rfl

theorem bs_append (a b : ByteArray) : bs (a ++ b) = bs a ++ bs b := by simp only [bs, ByteArray.data_append, Array.toList_append, List.map_append]
theorem bs_length (a : ByteArray) : (bs a).length = a.size := by
  show (a.data.toList.map UInt8.toNat).length = a.data.size
  rw [List.length_map]; exact Array.length_toList
theorem toList_eq (s : ByteArray) : s.toList = s.data.toList := Lib.toList_data s
theorem map_toNat_inj : ∀ {a b : List UInt8}, a.map UInt8.toNat = b.map UInt8.toNat → a = b
  | [], [], _ => rfl
  | [], _ :: _, h => by simp at h
  | _ :: _, [], h => by simp at h
  | x :: a, y :: b, h => by
    simp only [List.map_cons, List.cons.injEq] at h
    rw [map_toNat_inj h.2, UInt8.toNat_inj.1 h.1]
theorem bs_beq (a b : ByteArray) : (a.toList == b.toList) = (bs a == bs b) := by
  simp only [toList_eq, bs]
  rw [Bool.eq_iff_iff]
  simp only [beq_iff_eq]
  exact ⟨fun h => by rw [h], map_toNat_inj⟩
theorem bs_less : ∀ (a b : List UInt8), Op.bytesLess a b = natsLess (a.map UInt8.toNat) (b.map UInt8.toNat)
  | [], [] => rfl
  | [], _ :: _ => rfl
  | _ :: _, [] => rfl
  | x :: a, y :: b => by
    have e1 : decide (x < y) = Nat.blt x.toNat y.toNat := by
      rw [Bool.eq_iff_iff]; simp [Nat.blt, UInt8.lt_iff_toNat_lt, Nat.succ_le_iff]
    have e2 : (x == y) = Nat.beq x.toNat y.toNat := by
      rw [Bool.eq_iff_iff]; simp only [beq_iff_eq, Nat.beq_eq]; exact UInt8.toNat_inj.symm
    simp only [Op.bytesLess, List.map_cons, natsLess, bs_less a b, e1, e2]
theorem strBin_sound {op : BinOp} {x y : ByteArray} {v : AV} (h : strBin op (bs x) (bs y) = some v) (w : World) : ∃ u, (Op.stringOp op x y).run P w = .ok u w ∧ V ρ v u := by
  have hl := bs_less x.data.toList y.data.toList
  have hlt : Op.bytesLess x.toList y.toList = natsLess (bs x) (bs y) := by rw [toList_eq, toList_eq]; exact hl
  have heq := bs_beq x y
  cases op <;> simp only [strBin] at h
  case add =>
    split at h
    · rename_i hle
      obtain rfl := Option.some.inj h
      have hle := Nat.le_of_ble_eq_true hle
      rw [bs_length, bs_length] at hle
      refine ⟨.string (x ++ y), ?_, .str (bs_append x y)⟩
      simp only [Op.stringOp, Sem.run_ite]
      rw [if_neg (by simp [IntKind.max, IntKind.signed, IntKind.bits]; omega)]
      rfl
    · cases h
  all_goals first
    | (cases h; done)
    | (obtain rfl := Option.some.inj h
       refine ⟨_, rfl, ?_⟩
       first | (rw [heq]; exact .bool) | (rw [hlt]; exact .bool) | (rw [hlt, heq]; exact .bool))

theorem intBin_sound {op : BinOp} {k : IntKind} {m n : Int} {v : AV} (hs : op ≠ .shl ∧ op ≠ .shr) (h : intBin op k m n = some v) (t : TypeId) : ∃ u, (binOp op t (.int k m) (.int k n)).run P w = .ok u w ∧ V ρ v u := by
  cases op <;> simp only [intBin] at h
  case shl => exact absurd rfl hs.1
  case shr => exact absurd rfl hs.2
  case and =>
    simp only [Option.map_eq_some_iff] at h
    obtain ⟨r, hr, rfl⟩ := h
    exact ⟨_, by simp only [binOp, ne_eq, not_true_eq_false, if_false]; exact bitsF_sound hr P w, .int⟩
  case or =>
    simp only [Option.map_eq_some_iff] at h
    obtain ⟨r, hr, rfl⟩ := h
    exact ⟨_, by simp only [binOp, ne_eq, not_true_eq_false, if_false]; exact bitsF_sound hr P w, .int⟩
  case xor =>
    simp only [Option.map_eq_some_iff] at h
    obtain ⟨r, hr, rfl⟩ := h
    exact ⟨_, by simp only [binOp, ne_eq, not_true_eq_false, if_false]; exact bitsF_sound hr P w, .int⟩
  case quo =>
    split at h
    · cases h
    · rename_i hz
      obtain rfl := Option.some.inj h
      have hz : n ≠ 0 := by simpa using hz
      exact ⟨.int k (k.wrap (m.tdiv n)), by simp [binOp, Op.intDiv, hz], by rw [wrapF_eq]; exact .int⟩
  case rem =>
    split at h
    · cases h
    · rename_i hz
      obtain rfl := Option.some.inj h
      have hz : n ≠ 0 := by simpa using hz
      exact ⟨.int k (m.tmod n), by simp [binOp, Op.intDiv, hz], .int⟩
  all_goals first
    | (cases h; done)
    | (obtain rfl := Option.some.inj h
       exact ⟨_, by simp only [binOp, ne_eq, not_true_eq_false, if_false, Op.intArith, Op.intCmp]; rfl, by first | exact .bool | (rw [wrapF_eq]; exact .int)⟩)

theorem any_int {x : AV} {k : IntKind} {v : Value} (h : anyInt x = some k) (hv : V ρ x v) : ∃ n, v = .int k n := by
  unfold anyInt at h
  split at h
  · obtain rfl := Option.some.inj h
    cases hv
    exact ⟨_, rfl⟩
  · obtain rfl := Option.some.inj h
    cases hv
    rename_i h
    exact h
  · cases h
section
variable {o : Oper} {x y : Operand} {p q : Opd} (hF : FR ρ fr a) (hR : R B w0 ρ S w)
include hF hR

theorem sound_bin {op : BinOp} {t u : TypeId} {v : AV} {S' : St} (ho : o.op = .binOp op t x y u) (hx : cOpd x = some p) (hy : cOpd y = some q)
    (h : aop (.bin op p q) fr.ev rid S = some (v, S')) : Good P B w0 ρ S rid a w o v S' := by
  have h1 := hF.ev hx
  have h2 := hF.ev hy
  simp only [aop, Option.map_eq_some_iff, Prod.mk.injEq] at h
  obtain ⟨v, hv, rfl, rfl⟩ := h
  have hex : ∀ vx vy r, a.eval x = vx → a.eval y = vy → vx ≠ .nilIface → (∀ cs, vx ≠ .agg cs) → (binOp op t vx vy).run P w = .ok r w → (execOp a.eval o).run P w = .ok (.value r) w := by
    intro vx vy r e1 e2 n1 n2 hb
    simp only [execOp, ho, e1, e2]
    refine run_v ?_
    rw [Sem.run_bind, run_eqGuard_plain op t x y vx vy (.inl n1) (.inl n2)]
    exact hb
  unfold aBin at hv
  split at hv
  · rename_i k m k' n e1 e2
    rw [e1] at h1
    rw [e2] at h2
    generalize hvx : a.eval x = vx at h1
    generalize hvy : a.eval y = vy at h2
    cases h1
    cases h2
    split at hv
    · split at hv
      · cases hv
      · rename_i hn
        obtain rfl := Option.some.inj hv
        have hn : ¬ n < 0 := by simpa using hn
        refine good_same hR .int (hex _ _ _ hvx hvy (by simp) (by simp) ?_)
        simp only [binOp, Op.shift, Sem.run_ite, if_neg hn, Sem.run_pure, shlF_eq]
    · split at hv
      · cases hv
      · rename_i hn
        obtain rfl := Option.some.inj hv
        have hn : ¬ n < 0 := by simpa using hn
        refine good_same hR .int (hex _ _ _ hvx hvy (by simp) (by simp) ?_)
        simp only [binOp, Op.shift, Sem.run_ite, if_neg hn, Sem.run_pure, shrF_eq]
    · rename_i n1 n2
      split at hv
      · rename_i hk
        obtain rfl : k = k' := by simpa using hk
        obtain ⟨r, hr, hvr⟩ := intBin_sound (P := P) (ρ := ρ) (w := w) ⟨fun e => n1 e, fun e => n2 e⟩ hv t
        exact good_same hR hvr (hex _ _ _ hvx hvy (by simp) (by simp) hr)
      · cases hv
  · rename_i l m e1 e2
    rw [e1] at h1
    rw [e2] at h2
    generalize hvx : a.eval x = vx at h1
    generalize hvy : a.eval y = vy at h2
    cases h1
    rename_i s1 hs1
    cases h2
    rename_i s2 hs2
    subst hs1 hs2
    obtain ⟨r, hr, hvr⟩ := strBin_sound (P := P) (ρ := ρ) hv w
    refine good_same hR hvr (hex _ _ _ hvx hvy (by simp) (by simp) ?_)
    cases op <;> first | exact hr | (simp [strBin] at hv; done)
  · unfold aBinAny at hv
    split at hv
    · rename_i k k' e1 e2
      split at hv
      · rename_i hk
        obtain rfl : k = k' := by simpa using hk
        obtain ⟨m, hm⟩ := any_int e1 h1
        obtain ⟨n, hn⟩ := any_int e2 h2
        split at hv
        all_goals first | (cases hv; done) | skip
        all_goals obtain rfl := Option.some.inj hv
        all_goals first
          | exact good_same hR (.any ⟨_, rfl⟩) (hex _ _ _ hm hn (by simp) (by simp) (by simp only [binOp, ne_eq, not_true_eq_false, if_false, Op.intArith, Op.intCmp]; rfl))
      · cases hv
    · cases hv

theorem sound_un {op : UnOp} {t : TypeId} {v : AV} {S' : St} (ho : o.op = .unOp op t x) (hx : cOpd x = some p)
    (h : aop (.un op p) fr.ev rid S = some (v, S')) : Good P B w0 ρ S rid a w o v S' := by
  have h1 := hF.ev hx
  simp only [aop, Option.map_eq_some_iff, Prod.mk.injEq] at h
  obtain ⟨v, hv, rfl, rfl⟩ := h
  unfold aUn at hv
  split at hv
  · rename_i k n e
    obtain rfl := Option.some.inj hv
    rw [e] at h1
    generalize hvx : a.eval x = vx at h1
    cases h1
    refine good_same hR .int ?_
    simp [execOp, ho, hvx, Op.unary, Op.intArith, wrapF_eq]
  · rename_i n e
    simp only [Option.map_eq_some_iff] at hv
    obtain ⟨r, hr, rfl⟩ := hv
    rw [e] at h1
    generalize hvx : a.eval x = vx at h1
    cases h1
    refine good_same hR .int ?_
    simp only [execOp, ho, hvx]
    refine run_v ?_
    exact bitsF_sound hr P w
  · rename_i b e
    obtain rfl := Option.some.inj hv
    rw [e] at h1
    generalize hvx : a.eval x = vx at h1
    cases h1
    refine good_same hR .bool ?_
    simp [execOp, ho, hvx, Op.unary]
  · cases hv
end
end Go.Eng
