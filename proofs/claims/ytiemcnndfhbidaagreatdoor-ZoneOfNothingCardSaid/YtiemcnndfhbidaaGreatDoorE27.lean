/-
  A run in pieces: a piece ends in a state that is written down, the next begins there.
-/
import Derived.Test.YtiemcnndfhbidaaGreatDoorE26
set_option linter.unusedSimpArgs false
set_option linter.unusedVariables false
namespace Go.Eng
open Go.RowKit (Below)
section
variable {P : Program} {B : Nat} {w0 w : World} {ρ : Pl} {S S1 : St} {fr : AFr} {a : Act}
/-! ### Pieces -/
/-- Code, begun so, ends as k bears. -/
def Ckd (P : Program) (cc : CC) (fr : AFr) (S : St) (k : Cont) : Prop :=
  ∀ (B : Nat) (w0 : World) (r : Option Nat) (c : Code) (ρ : Pl) (a : Act) (w : World), compC P c = some cc → FR ρ fr a → R B w0 ρ S w → CodeOk P ρ → (r = none ∨ fr.rd = true) → c.wpIn (FF r) 0 P (Out B w0 ρ S fr.rd k) a w
theorem ckd_of_chk {E : Env} (hE : E.Ok P) {deep : Nat → Bool} {f : Nat} {cc : CC} {k : Cont} (h : chk E deep f cc fr S k = true) : Ckd P cc fr S k :=
  fun B w0 r c ρ a w hc hF hR hP hr => chk_sound hE f r c cc fr S k ρ a w hc h hF hR hP hr
/-- The end of a piece: the state that is written down. -/
def endsIn (fr1 : AFr) (S1 : St) : Cont := fun e fr S =>
  match e with
  | .normal => covF fr1 fr && covS S1 S
  | _ => false
theorem compC_seq {c : Code} {x y : CC} (hc : compC P c = some (.seq x y)) : ∃ cx cy, c = .seq cx cy ∧ compC P cx = some x ∧ compC P cy = some y := by
  cases c
  case seq cx cy =>
    simp only [compC] at hc
    split at hc
    · rename_i x' y' hx hy
      obtain ⟨rfl, rfl⟩ := CC.seq.inj (Option.some.inj hc)
      exact ⟨cx, cy, rfl, hx, hy⟩
    · cases hc
  case region id ops draw =>
    cases draw <;> simp only [compC] at hc <;> (repeat' split at hc) <;> simp_all
  all_goals (simp only [compC] at hc <;> (repeat' split at hc) <;> simp_all)
theorem ckd_seq {x y : CC} {fr1 : AFr} {k : Cont} (h1 : Ckd P x fr S (endsIn fr1 S1)) (h2 : Ckd P y fr1 S1 k) : Ckd P (.seq x y) fr S k := by
  intro B w0 r c ρ a w hc hF hR hP hr
  obtain ⟨cx, cy, rfl, hx, hy⟩ := compC_seq hc
  refine wpIn_seq (wpIn_mono (h1 B w0 r cx ρ a w hx hF hR hP hr) ?_)
  rintro z a' w' ⟨e, fr', S', hk, rfl, hd', ρ', hp', hF'⟩
  cases e with
  | normal =>
    simp only [endsIn, Bool.and_eq_true] at hk
    have hcf := covF_spec hk.1
    have hcs := covS_spec hk.2
    have hpc := hp'.cover hcs
    have hrd : fr1.rd = fr.rd := hcf.2.2.1.trans hd'
    refine wpIn_mono (h2 B w0 r cy ρ' a' w' hy (hF'.cover hcf) hpc.r (hP.sub hp'.sub) (by rw [hrd]; exact hr)) (fun z a2 w2 ho => ?_)
    rw [hrd] at ho
    exact ho.behind hpc
  | ret => cases hk
  | exit id => cases hk
/-- The function returns true and leaves what was there as it was. -/
theorem true_of_ckd {E : Env} (hE : E.Ok P) (th : Nat → Nat) {g : Nat} {cf : CFun} {args : List AV} {xs : List Value} (hg : FnOk P g cf) (hl : Nat.ble args.length cf.n = true) (h : Ckd P cf.body (aframe cf.n args) ⟨.nil, 0⟩ (backK cf isTrue)) (hx : VL (plStart P th) args xs) (w : World) :
    (callFunc g xs.toArray).run P w = .ok (.enter g xs.toArray) w ∧ Calls P g xs.toArray w (fun en w' => en = .returned (.bool true) ∧ Below w.heap.size w w') := by
  classical
  have hck : CkOk P w.heap.size w (fun cc fr S k => decide (Ckd P cc fr S k)) := fun r c cc fr S k ρ a w' hc hk hF hR hP hr => of_decide_eq_true hk _ _ r c ρ a w' hc hF hR hP hr
  obtain ⟨h1, h2⟩ := calls_of_ck hE hck hg hl (decide_eq_true h) hx (R.start w _ th) rfl
  refine ⟨h1, Calls.mono (callsIn_wide.1 h2) ?_⟩
  rintro en w' ⟨x, vs, S', rfl, hp, ρ', hpo, hv⟩
  unfold isTrue at hp
  split at hp
  · cases hv
    exact ⟨rfl, hpo.r.below⟩
  · cases hp
def CC.hd : CC → CC
  | .seq a _ => a
  | c => c
def CC.tl : CC → CC
  | .seq _ b => b
  | c => c
theorem ckd_step {c : CC} {fr1 : AFr} {k : Cont} (he : c = .seq c.hd c.tl) (h1 : Ckd P c.hd fr S (endsIn fr1 S1)) (h2 : Ckd P c.tl fr1 S1 k) : Ckd P c fr S k := by
  rw [he]
  exact ckd_seq h1 h2
/-- Of one function it is known that it returns true and leaves all as it was. -/
def conTrue (k : Nat) : Nat → List AV → St → Option (AV × St) := fun g args S =>
  match Nat.beq g k, args with
  | true, [] => some (.bool true, S)
  | _, _ => none
theorem env_true {E : Env} (hE : E.Ok P) {k : Nat} (h : ∀ w : World, (callFunc k #[]).run P w = .ok (.enter k #[]) w ∧ Calls P k #[] w (fun en w' => en = .returned (.bool true) ∧ Below w.heap.size w w')) :
    ({ E with con := conTrue k } : Env).Ok P where
  mixed := hE.mixed
  fn := hE.fn
  mnz := hE.mnz
  con := fun g args S v S' hc B w0 ρ w xs hx hR => by
    change conTrue k g args S = some (v, S') at hc
    unfold conTrue at hc
    split at hc
    · rename_i e
      obtain rfl := Nat.eq_of_beq_eq_true e
      obtain ⟨rfl, rfl⟩ := Prod.mk.inj (Option.some.inj hc)
      cases hx
      obtain ⟨h1, h2⟩ := h w
      refine ⟨h1, h2.mono ?_⟩
      rintro en w' ⟨rfl, hb⟩
      exact ⟨_, rfl, ρ, post_true hR hb, .bool⟩
    · cases hc
end
end Go.Eng
