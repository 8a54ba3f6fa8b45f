/-
  Comparisons, ends of slices, lengths, the least and the greatest: carried out alike.
-/
import Derived.Test.YtiemcnndfhbidaaGreatDoorE7
set_option linter.unusedSimpArgs false
namespace Go.Eng
open Go.RowKit (Below)
variable {P : Program} {B : Nat} {w0 w : World} {ρ : Pl} {S : St} {fr : AFr} {a : Act} {rid : Nat}

def EK.fits (P : Program) (k : EK) (t : TypeId) : Prop :=
  match k with
  | .bool => P.underlying t = some .bool
  | .ptr => ∃ e n, P.underlying t = some (.pointer e) ∧ sizeT P e = some (n + 1)
  | .slice => ∃ e, P.underlying t = some (.slice e)
  | .map => ∃ k e, P.underlying t = some (.map k e)
  | .func => ∃ x y z, P.underlying t = some (.func x y z)
theorem aEq_sound {k : EK} {t : TypeId} {x y : AV} {u v : Value} {b : Bool} (hk : k.fits P t) (hx : V ρ x u) (hy : V ρ y v) (h : aEq k x y = some b) (d : Nat) : (Op.equalIn (d + 1) t u v).run P w = .ok b w ∧ u ≠ .nilIface ∧ ∀ cs, u ≠ .agg cs := by
  unfold aEq at h
  split at h
  · cases hx; cases hy
    obtain rfl := Option.some.inj h
    refine ⟨?_, by simp, by simp⟩
    have hk : P.underlying t = some .bool := hk
    simp [Op.equalIn, run_underlying hk]
  · cases hx; cases hy
    obtain rfl := Option.some.inj h
    obtain ⟨e, n, hu, hn⟩ := hk
    exact ⟨by simp [Op.equalIn, run_underlying hu], by simp, by simp⟩
  · cases hx; cases hy
    obtain rfl := Option.some.inj h
    obtain ⟨e, n, hu, hn⟩ := hk
    exact ⟨by simp [Op.equalIn, run_underlying hu], by simp, by simp⟩
  · cases hx; cases hy
    obtain rfl := Option.some.inj h
    obtain ⟨e, n, hu, hn⟩ := hk
    exact ⟨by simp [Op.equalIn, run_underlying hu], by simp, by simp⟩
  · split at h
    · rename_i hij
      obtain rfl := Nat.eq_of_beq_eq_true hij
      obtain rfl := Option.some.inj h
      cases hx
      rename_i r hr
      cases hy
      rename_i r' hr'
      obtain rfl := Option.some.inj (hr.symm.trans hr')
      obtain ⟨e, n, hu, hn⟩ := hk
      refine ⟨?_, by simp, by simp⟩
      have : ∀ i j : Nat, ((⟨r.b, r.sh + i, none⟩ : Addr) == ⟨r.b, r.sh + j, none⟩) = Nat.beq i j := by
        intro i j
        rw [Bool.eq_iff_iff, beq_iff_eq, Nat.beq_eq]
        simp
      simp [Op.equalIn, run_underlying hu, run_sizeT hn, sameAddr, this]
    · cases h
  · cases hx; cases hy
    obtain rfl := Option.some.inj h
    obtain ⟨e, hu⟩ := hk
    exact ⟨by simp [Op.equalIn, run_underlying hu], by simp, by simp⟩
  · cases hx; cases hy
    obtain rfl := Option.some.inj h
    obtain ⟨e, hu⟩ := hk
    exact ⟨by simp [Op.equalIn, run_underlying hu], by simp, by simp⟩
  · cases hx; cases hy
    obtain rfl := Option.some.inj h
    obtain ⟨e, hu⟩ := hk
    exact ⟨by simp [Op.equalIn, run_underlying hu], by simp, by simp⟩
  · cases hx; cases hy
    obtain rfl := Option.some.inj h
    obtain ⟨k, e, hu⟩ := hk
    exact ⟨by simp [Op.equalIn, run_underlying hu], by simp, by simp⟩
  · cases hx; cases hy
    obtain rfl := Option.some.inj h
    obtain ⟨k, e, hu⟩ := hk
    exact ⟨by simp [Op.equalIn, run_underlying hu], by simp, by simp⟩
  · cases hx; cases hy
    obtain rfl := Option.some.inj h
    obtain ⟨k, e, hu⟩ := hk
    exact ⟨by simp [Op.equalIn, run_underlying hu], by simp, by simp⟩
  · cases hx; cases hy
    obtain rfl := Option.some.inj h
    obtain ⟨k, e, z, hu⟩ := hk
    exact ⟨by simp [Op.equalIn, run_underlying hu], by simp, by simp⟩
  · cases hx; cases hy
    obtain rfl := Option.some.inj h
    obtain ⟨k, e, z, hu⟩ := hk
    exact ⟨by simp [Op.equalIn, run_underlying hu], by simp, by simp⟩
  · cases hx; cases hy
    obtain rfl := Option.some.inj h
    obtain ⟨k, e, z, hu⟩ := hk
    exact ⟨by simp [Op.equalIn, run_underlying hu], by simp, by simp⟩
  · cases h

theorem binOp_eql_of {t : TypeId} {u v : Value} {b : Bool} (h : (Op.equal t u v).run P w = .ok b w) (hu : (∀ k n, u ≠ .int k n) ∧ (∀ s, u ≠ .string s) ∧ (∀ k x, u ≠ .float k x) ∧ (∀ k x y, u ≠ .complex k x y)) :
    (binOp .eql t u v).run P w = .ok (.bool b) w ∧ (binOp .neq t u v).run P w = .ok (.bool !b) w := by
  obtain ⟨h1, h2, h3, h4⟩ := hu
  constructor
  · cases u <;> first | (exact absurd rfl (h1 _ _)) | (exact absurd rfl (h2 _)) | (exact absurd rfl (h3 _ _)) | (exact absurd rfl (h4 _ _ _)) | simp [binOp, h]
  · cases u <;> first | (exact absurd rfl (h1 _ _)) | (exact absurd rfl (h2 _)) | (exact absurd rfl (h3 _ _)) | (exact absurd rfl (h4 _ _ _)) | simp [binOp, h]
theorem aEq_kind {k : EK} {x y : AV} {u : Value} {b : Bool} (hx : V ρ x u) (h : aEq k x y = some b) : (∀ k n, u ≠ .int k n) ∧ (∀ s, u ≠ .string s) ∧ (∀ k x, u ≠ .float k x) ∧ (∀ k x y, u ≠ .complex k x y) := by
  unfold aEq at h
  split at h <;> first | (cases h; done) | (cases hx; simp)

/-- Ends that are numbers. -/
def OI : Option Int → Option Value → Prop
  | none, none => True
  | some n, some v => ∃ k, v = .int k n
  | _, _ => False
theorem bound_sound (hF : FR ρ fr a) {x : Option Operand} {p : Option Opd} {n : Option Int} (hc : cOpdO x = some p) (h : bound fr.ev p = some n) : OI n (x.map a.eval) := by
  cases x with
  | none =>
    simp only [cOpdO, Option.some.injEq] at hc
    subst hc
    simp only [bound, Option.some.injEq] at h
    subst h
    trivial
  | some x =>
    simp only [cOpdO, Option.map_eq_some_iff] at hc
    obtain ⟨q, hq, rfl⟩ := hc
    have hv := hF.ev hq
    simp only [bound] at h
    split at h
    · rename_i k m e
      obtain rfl := Option.some.inj h
      rw [e] at hv
      generalize hvx : a.eval x = vx at hv
      cases hv
      exact ⟨k, by simp [hvx]⟩
    · cases h
theorem top_sound {len c : Nat} {cap m : Option Nat} (hc : len ≤ c) (hcap : ∀ k, cap = some k → k = c) {mx : Option Int} {mx' : Option Value} (h3 : OI mx mx') {isS : Bool} (em : topOf len cap mx = some m) :
    (match (generalizing := false) mx' with
      | some v => Instr.sliceBound v c (if isS then .slice3Acap else .slice3Alen)
      | none => Pure.pure c : Sem Nat).run P w = .ok (m.getD c) w ∧ m.getD c ≤ c ∧ (m = none → cap = none) ∧ (mx = none → m = cap) := by
  have htop : cap.getD len ≤ c := by
    cases cap with
    | none => exact hc
    | some k => exact Nat.le_of_eq (hcap k rfl)
  cases mx with
  | none =>
    cases mx' with
    | some v => exact h3.elim
    | none =>
      obtain rfl := Option.some.inj em
      refine ⟨?_, ?_, fun h => h, fun _ => rfl⟩
      · cases cap with
        | none => rfl
        | some k => obtain rfl := hcap k rfl; rfl
      · cases cap with
        | none => exact Nat.le_refl _
        | some k => exact Nat.le_of_eq (hcap k rfl)
  | some mm =>
    cases mx' with
    | none => exact h3.elim
    | some v =>
      obtain ⟨k, rfl⟩ := h3
      simp only [topOf] at em
      split at em
      · rename_i hd
        have hd := of_decide_eq_true hd
        obtain rfl := Option.some.inj em
        refine ⟨?_, ?_, fun h => (by cases h), fun h => (by cases h)⟩
        · exact run_sliceBound (P := P) (w := w) k mm c _ hd.1 (by omega)
        · simp; omega
      · cases em
theorem hi_sound {len c : Nat} {cap m : Option Nat} (hc : len ≤ c) (hcap : ∀ k, cap = some k → k = c) {hi mx : Option Int} {hi' mx' : Option Value} (h2 : OI hi hi') (h3 : OI mx mx') {isS : Bool} {h : Nat} (hm : mx = none → m = cap)
    (eh : hiOf len m hi mx = some h) :
    (match (generalizing := false) hi', mx' with
      | some v, some _ => Instr.sliceBound v (m.getD c) .slice3B
      | some v, none => Instr.sliceBound v (m.getD c) (if isS then .sliceAcap else .sliceAlen)
      | none, none => Pure.pure len
      | none, some _ => stuck "Slice: max without high" : Sem Nat).run P w = .ok h w ∧ h ≤ m.getD c := by
  have hml : m.getD len ≤ m.getD c := by cases m <;> simp; exact hc
  cases hi with
  | none =>
    cases hi' with
    | some v => exact h2.elim
    | none =>
      cases mx with
      | some mm => cases eh
      | none =>
        cases mx' with
        | some v => exact h3.elim
        | none =>
          obtain rfl := Option.some.inj eh
          refine ⟨rfl, ?_⟩
          rw [hm rfl]
          cases cap with
          | none => exact hc
          | some k => obtain rfl := hcap k rfl; exact hc
  | some hh =>
    cases hi' with
    | none => exact h2.elim
    | some v =>
      obtain ⟨k, rfl⟩ := h2
      simp only [hiOf] at eh
      split at eh
      · rename_i hd
        have hd := of_decide_eq_true hd
        obtain rfl := Option.some.inj eh
        refine ⟨?_, by omega⟩
        cases mx' with
        | none => exact run_sliceBound (P := P) (w := w) k hh _ _ hd.1 (by omega)
        | some v => exact run_sliceBound (P := P) (w := w) k hh _ _ hd.1 (by omega)
      · cases eh
theorem lo_sound {h l : Nat} {lo : Option Int} {lo' : Option Value} (h1 : OI lo lo') {code : BoundsCode} (el : loOf h lo = some l) :
    (match (generalizing := false) lo' with
      | some v => Instr.sliceBound v h code
      | none => Pure.pure 0 : Sem Nat).run P w = .ok l w ∧ l ≤ h := by
  cases lo with
  | none =>
    cases lo' with
    | some v => exact h1.elim
    | none => obtain rfl := Option.some.inj el; exact ⟨rfl, Nat.zero_le _⟩
  | some ll =>
    cases lo' with
    | none => exact h1.elim
    | some v =>
      obtain ⟨k, rfl⟩ := h1
      simp only [loOf] at el
      split at el
      · rename_i hd
        have hd := of_decide_eq_true hd
        obtain rfl := Option.some.inj el
        exact ⟨run_sliceBound (P := P) (w := w) k ll _ _ hd.1 hd.2, by omega⟩
      · cases el
theorem ends_sound {len c : Nat} {cap : Option Nat} (hc : len ≤ c) (hcap : ∀ k, cap = some k → k = c) {lo hi mx : Option Int} {lo' hi' mx' : Option Value} (h1 : OI lo lo') (h2 : OI hi hi') (h3 : OI mx mx') {l h : Nat} {m : Option Nat} {isS : Bool}
    (he : ends len cap lo hi mx = some (l, h, m)) : (Instr.sliceBounds isS len c lo' hi' mx').run P w = .ok (l, h, m.getD c) w ∧ l ≤ h ∧ h ≤ m.getD c ∧ m.getD c ≤ c ∧ (m = none → cap = none) := by
  unfold ends at he
  split at he
  · cases he
  · rename_i m0 em
    split at he
    · cases he
    · rename_i h0 eh
      split at he
      · cases he
      · rename_i l0 el
        simp only [Option.some.injEq, Prod.mk.injEq] at he
        obtain ⟨rfl, rfl, rfl⟩ := he
        obtain ⟨hm1, hm2, hm3, hm4⟩ := top_sound (P := P) (w := w) hc hcap h3 (isS := isS) em
        obtain ⟨hh1, hh2⟩ := hi_sound (P := P) (w := w) hc hcap h2 h3 (isS := isS) hm4 eh
        have hlo := fun code => (lo_sound (P := P) (w := w) h1 (code := code) el).1
        refine ⟨?_, (lo_sound (P := P) (w := w) h1 (code := .index) el).2, hh2, hm2, hm3⟩
        unfold Instr.sliceBounds
        have hl0 := hlo .index
        have hl1 := hlo .sliceB
        have hl2 := hlo .slice3C
        cases mx' <;> cases hi' <;> cases lo' <;> simp only [] at hm1 hh1 hl0 hl1 hl2 ⊢ <;>
          simp only [Sem.run_bind, hm1, hh1, hl0, hl1, hl2, Result.andThen, Option.isSome_some, Option.isSome_none, Bool.false_eq_true, if_true, if_false] <;> first | rfl | (exact absurd hh1 (by simp))

section
variable {o : Oper} {x y : Operand} {p q : Opd} (hF : FR ρ fr a) (hR : R B w0 ρ S w)
include hF hR

theorem sound_eqq {k : EK} {neg : Bool} {op : BinOp} {t u : TypeId} {v : AV} {S' : St} (ho : o.op = .binOp op t x y u) (hop : op = if neg then .neq else .eql) (hk : k.fits P t) (hx : cOpd x = some p) (hy : cOpd y = some q)
    (h : aop (.eqq k neg p q) fr.ev rid S = some (v, S')) : Good P B w0 ρ S rid a w o v S' := by
  have h1 := hF.ev hx
  have h2 := hF.ev hy
  simp only [aop, Option.map_eq_some_iff, Prod.mk.injEq] at h
  obtain ⟨b, hb, rfl, rfl⟩ := h
  obtain ⟨e1, n1, n2⟩ := aEq_sound (P := P) (w := w) hk h1 h2 hb 9999
  obtain ⟨e2, e3⟩ := binOp_eql_of e1 (aEq_kind h1 hb)
  have hex : ∀ r, (binOp op t (a.eval x) (a.eval y)).run P w = .ok r w → (execOp a.eval o).run P w = .ok (.value r) w := by
    intro r hr
    simp only [execOp, ho]
    refine run_v ?_
    rw [Sem.run_bind, run_eqGuard_plain op t x y _ _ (.inl n1) (.inl n2)]
    exact hr
  cases neg with
  | true => subst hop; exact good_same hR .bool (hex _ e3)
  | false => subst hop; exact good_same hR .bool (hex _ e2)

theorem sound_slice {t e : TypeId} {n : Nat} {lo hi mx : Option Operand} {l h m : Option Opd} {v : AV} {S' : St} (ho : o.op = .slice t x lo hi mx) (hu : P.underlying t = some (.slice e)) (hn : sizeT P e = some n)
    (hx : cOpd x = some p) (hl : cOpdO lo = some l) (hh : cOpdO hi = some h) (hm : cOpdO mx = some m)
    (hop : aop (.slice n p l h m) fr.ev rid S = some (v, S')) : Good P B w0 ρ S rid a w o v S' := by
  have h1 := hF.ev hx
  simp only [aop] at hop
  split at hop
  · rename_i l0 h0 m0 el eh em
    have b1 := bound_sound hF hl el
    have b2 := bound_sound hF hh eh
    have b3 := bound_sound hF hm em
    simp only [Option.map_eq_some_iff, Prod.mk.injEq] at hop
    obtain ⟨v, hv, rfl, rfl⟩ := hop
    have hex : ∀ ad len c (ll hh mm : Nat), a.eval x = .slice ad len c → (Instr.sliceBounds true len c (lo.map a.eval) (hi.map a.eval) (mx.map a.eval)).run P w = .ok (ll, hh, mm) w →
        (execOp a.eval o).run P w = .ok (.value (.slice (if mm = ll then ad else ad.map (·.add (ll * n))) (hh - ll) (mm - ll))) w := by
      intro ad len c ll hh mm e1 e2
      simp only [execOp, ho, e1]
      refine run_v ?_
      simp [Instr.sliceAt, run_underlying hu, Instr.slice, e2, run_sizeT hn]
    unfold aSlice at hv
    split at hv
    · rename_i ep
      split at hv
      · rename_i r er
        obtain ⟨ll, hh, mm⟩ := r
        obtain rfl := Option.some.inj hv
        rw [ep] at h1
        generalize hvx : a.eval x = vx at h1
        cases h1
        obtain ⟨hr, g1, g2, g3, g4⟩ := ends_sound (P := P) (w := w) (len := 0) (c := 0) (cap := some 0) (isS := true) (Nat.le_refl 0) (fun k e => (Option.some.inj e).symm) b1 b2 b3 er
        refine good_same hR ?_ (hex _ _ _ _ _ _ hvx hr)
        have e1 : mm.getD 0 = 0 := by omega
        have e2 : hh = 0 := by omega
        have e3 : ll = 0 := by omega
        rw [e1, e2, e3]
        exact .nils
      · cases hv
    · rename_i id off len cap ep
      rw [ep] at h1
      generalize hvx : a.eval x = vx at h1
      cases h1
      rename_i c r ad hr hlen had hfit
      split at hv
      · rename_i c0
        have hfit : c = c0 := hfit
        subst hfit
        split at hv
        · rename_i ll hh mm er
          obtain rfl := Option.some.inj hv
          obtain ⟨hb, g1, g2, g3, g4⟩ := ends_sound (P := P) (w := w) (cap := some c) (isS := true) hlen (fun k e => (Option.some.inj e).symm) b1 b2 b3 er
          simp only [Option.getD_some] at hb g2 g3
          refine good_same hR ?_ (hex _ _ _ _ _ _ hvx hb)
          by_cases hml : mm = ll
          · subst hml
            rw [if_pos rfl]
            simp only [Nat.beq_refl]
            exact .sl hr (by omega) rfl (.inl ⟨by omega, by omega⟩)
          · rw [if_neg hml]
            have hb' : Nat.beq mm ll = false := by
              cases hb' : Nat.beq mm ll
              · rfl
              · exact absurd (Nat.eq_of_beq_eq_true hb') hml
            rw [hb']
            simp only [Option.map_some]
            rcases had with had | had
            · omega
            · subst had
              rw [add_eq]
              exact .sl hr (by omega) rfl (.inr (by rw [Nat.add_assoc]))
        · cases hv
      · rename_i z
        have hfit : r.sh + off + c * z ≤ r.tot := hfit
        split at hv
        · rename_i ll hh mm er
          obtain rfl := Option.some.inj hv
          obtain ⟨hb, g1, g2, g3, g4⟩ := ends_sound (P := P) (w := w) (cap := none) (isS := true) hlen (fun k e => (by cases e)) b1 b2 b3 er
          simp only [Option.getD_some] at hb g2 g3
          refine good_same hR ?_ (hex _ _ _ _ _ _ hvx hb)
          by_cases hml : mm = ll
          · subst hml
            rw [if_pos rfl]
            simp only [Nat.beq_refl]
            exact .sl hr (by omega) rfl (.inl ⟨by omega, by omega⟩)
          · rw [if_neg hml]
            have hb' : Nat.beq mm ll = false := by
              cases hb' : Nat.beq mm ll
              · rfl
              · exact absurd (Nat.eq_of_beq_eq_true hb') hml
            rw [hb']
            simp only [Option.map_some]
            rcases had with had | had
            · omega
            · subst had
              rw [add_eq]
              exact .sl hr (by omega) rfl (.inr (by rw [Nat.add_assoc]))
        · rename_i ll hh er
          split at hv
          · rename_i hz
            obtain rfl := Nat.eq_of_beq_eq_true hz
            obtain rfl := Option.some.inj hv
            obtain ⟨hb, g1, g2, g3, g4⟩ := ends_sound (P := P) (w := w) (cap := none) (isS := true) hlen (fun k e => (by cases e)) b1 b2 b3 er
            simp only [Option.getD_none] at hb g2 g3
            refine good_same hR ?_ (hex _ _ _ _ _ _ hvx hb)
            have hf : r.sh + (off + ll * z) + (c - ll) * z ≤ r.tot := by
              have : (c - ll) * z + ll * z = c * z := by rw [← Nat.add_mul]; congr 1; omega
              omega
            by_cases hml : c = ll
            · subst hml
              rw [if_pos rfl]
              exact .sl hr (by omega) hf (.inl ⟨by omega, by omega⟩)
            · rw [if_neg hml]
              simp only [Option.map_some]
              rcases had with had | had
              · omega
              · subst had
                rw [add_eq]
                exact .sl hr (by omega) hf (.inr (by rw [Nat.add_assoc]))
          · cases hv
        · cases hv
    · cases hv
  · cases hop
theorem sound_slarr {t r e : TypeId} {N n : Nat} {lo hi mx : Option Operand} {l h m : Option Opd} {v : AV} {S' : St} (ho : o.op = .slice t x lo hi mx) (hu : P.underlying t = some (.pointer r)) (hur : P.underlying r = some (.array N e)) (hn : sizeT P e = some n)
    (hx : cOpd x = some p) (hl : cOpdO lo = some l) (hh : cOpdO hi = some h) (hm : cOpdO mx = some m)
    (hop : aop (.slarr N n p l h m) fr.ev rid S = some (v, S')) : Good P B w0 ρ S rid a w o v S' := by
  have h1 := hF.ev hx
  simp only [aop] at hop
  split at hop
  · rename_i l0 h0 m0 el eh em
    have b1 := bound_sound hF hl el
    have b2 := bound_sound hF hh eh
    have b3 := bound_sound hF hm em
    split at hop
    · rename_i id off ep
      split at hop
      · rename_i ll hh mm er
        obtain ⟨rfl, rfl⟩ := Prod.mk.inj (Option.some.inj hop)
        rw [ep] at h1
        generalize hvx : a.eval x = vx at h1
        cases h1
        rename_i rr hr
        obtain ⟨hb, g1, g2, g3, g4⟩ := ends_sound (P := P) (w := w) (cap := some N) (isS := false) (Nat.le_refl N) (fun k e => (Option.some.inj e).symm) b1 b2 b3 er
        simp only [Option.getD_some] at hb g2 g3
        have hex : (execOp a.eval o).run P w = .ok (.value (.slice (some (if mm = ll then ⟨rr.b, rr.sh + off, none⟩ else (⟨rr.b, rr.sh + off, none⟩ : Addr).add (ll * n))) (hh - ll) (mm - ll))) w := by
          simp only [execOp, ho, hvx]
          refine run_v ?_
          simp [Instr.sliceAt, run_underlying hu, Instr.slice, asAddr, run_underlying hur, hb, run_sizeT hn, Instr.sureAddr]
        refine good_same hR ?_ hex
        by_cases hml : mm = ll
        · subst hml
          rw [if_pos rfl]
          simp only [Nat.beq_refl]
          exact .sl hr (by omega) rfl (.inl ⟨by omega, by omega⟩)
        · rw [if_neg hml]
          have hb' : Nat.beq mm ll = false := by
            cases hb' : Nat.beq mm ll
            · rfl
            · exact absurd (Nat.eq_of_beq_eq_true hb') hml
          rw [hb', add_eq]
          exact .sl hr (by omega) rfl (.inr (by rw [Nat.add_assoc]))
      · cases hop
    · cases hop
  · cases hop
theorem sound_slstr {t : TypeId} {lo hi : Option Operand} {l h : Option Opd} {v : AV} {S' : St} (ho : o.op = .slice t x lo hi none) (hu : P.underlying t = some .string)
    (hx : cOpd x = some p) (hl : cOpdO lo = some l) (hh : cOpdO hi = some h)
    (hop : aop (.slstr p l h) fr.ev rid S = some (v, S')) : Good P B w0 ρ S rid a w o v S' := by
  have h1 := hF.ev hx
  simp only [aop] at hop
  split at hop
  · rename_i l0 h0 el eh
    have b1 := bound_sound hF hl el
    have b2 := bound_sound hF hh eh
    simp only [Option.map_eq_some_iff, Prod.mk.injEq] at hop
    obtain ⟨v, hv, rfl, rfl⟩ := hop
    unfold aSliceS at hv
    split at hv
    · rename_i s ep
      split at hv
      · rename_i ll hh mm er
        obtain rfl := Option.some.inj hv
        rw [ep] at h1
        generalize hvx : a.eval x = vx at h1
        cases h1
        rename_i s' hs
        subst hs
        rw [bs_length] at er
        obtain ⟨hr, g1, g2, g3, g4⟩ := ends_sound (P := P) (w := w) (isS := false) (mx := none) (mx' := none) (Nat.le_refl s'.size) (fun k e => (Option.some.inj e).symm) b1 b2 trivial er
        refine good_same hR (x := .string (s'.extract ll hh)) (.str ?_) ?_
        · simp only [bs, Lib.extract_data]
          rw [List.map_take, List.map_drop, List.drop_take]
        · simp only [execOp, ho, hvx]
          refine run_v ?_
          simp [Instr.sliceAt, run_underlying hu, Instr.slice, hr]
      · cases hv
    · cases hv
  · cases hop
end
end Go.Eng
