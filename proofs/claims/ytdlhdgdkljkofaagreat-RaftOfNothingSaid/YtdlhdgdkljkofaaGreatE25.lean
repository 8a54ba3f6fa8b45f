/-
  A run with unknown tests; the functions of a program all at once; the start.
-/
import Derived.Test.YtdlhdgdkljkofaaGreatE24
import Derived.Lib.MakeNoZero
import Derived.Laws.Externs
set_option linter.unusedSimpArgs false
set_option linter.unusedVariables false
set_option linter.unusedSectionVars false
namespace Go.Eng
open Go.RowKit (Below)

/-! ### All that a table holds -/
def Trie.All {α : Type} (p : Nat → α → Prop) : Trie α → (Nat → Nat) → Prop
  | .nil, _ => True
  | .node v l r, k => (∀ c, v = some c → p (k 0) c) ∧ Trie.All p l (fun m => k (2 * m + 1)) ∧ Trie.All p r (fun m => k (2 * m + 2))
theorem Trie.All.get {α : Type} {p : Nat → α → Prop} : ∀ {t : Trie α} {k : Nat → Nat} {n : Nat} {c : α}, Trie.All p t k → t.get n = some c → p (k n) c
  | .nil, _, _, _, _, h => by cases h
  | .node v l r, k, n, c, ⟨h0, h1, h2⟩, h => by
    rw [Trie.get_node] at h
    by_cases e : n = 0
    · rw [if_pos e] at h
      subst e
      exact h0 c h
    · rw [if_neg e] at h
      by_cases e1 : n % 2 = 1
      · rw [if_pos e1] at h
        have := Trie.All.get h1 h
        rwa [show 2 * (n / 2) + 1 = n by omega] at this
      · rw [if_neg e1] at h
        have := Trie.All.get h2 h
        rwa [show 2 * (n / 2 - 1) + 2 = n by omega] at this
theorem Trie.all_nil {α : Type} {p : Nat → α → Prop} {k : Nat → Nat} : Trie.All p .nil k := trivial
theorem Trie.all_none {α : Type} {p : Nat → α → Prop} {k : Nat → Nat} {l r : Trie α} (h1 : Trie.All p l (fun m => k (2 * m + 1))) (h2 : Trie.All p r (fun m => k (2 * m + 2))) : Trie.All p (.node none l r) k :=
  ⟨fun _ h => (by cases h), h1, h2⟩
theorem Trie.all_some {α : Type} {p : Nat → α → Prop} {k : Nat → Nat} {l r : Trie α} {c : α} (h0 : p (k 0) c) (h1 : Trie.All p l (fun m => k (2 * m + 1))) (h2 : Trie.All p r (fun m => k (2 * m + 2))) : Trie.All p (.node (some c) l r) k :=
  ⟨fun _ h => (by cases h; exact h0), h1, h2⟩
def FnOk (P : Program) (g : Nat) (cf : CFun) : Prop := ∃ fn, P.funcs[g]? = some fn ∧ (fn.name == "runtime.NumGoroutine") = false ∧ compFn P fn = some cf
theorem mnz_ok {P : Program} {g : Nat} {fn : Func} {ps : Array TypeId} {t e : TypeId} (hf : P.funcs[g]? = some fn) (hname : (fn.name == "runtime.NumGoroutine") = false) (hb : fn.body.isNone = true) (hn : Extern.findNext fn = none)
    (he : Extern.find fn = some (Extern.BytealgMakeNoZero.makeNoZero ps #[t])) (ht : P.underlying t = some (.slice e)) (n : Nat) (w : World) (hle : n ≤ 281474976710656) :
    ∃ cs e, (callFunc g #[.int .i64 n]).run P w = .ok (.value (.slice (some ⟨w.heap.size, 0, none⟩) n cs.size)) (w.drew.drew.alloc (.cells cs e)) ∧ n ≤ cs.size := by
  obtain ⟨cs, h1, h2, _⟩ := Lib.run_makeNoZero (P := P) w ps t e ht n hle
  refine ⟨cs, e, ?_, h2⟩
  rw [run_callFunc_extern hf hname hb hn he, h1]
  rfl

/-! ### The start -/
theorem R.start (w : World) : R w.heap.size w (fun _ => none) ⟨.nil, 0⟩ w := by
  have no : ∀ id k, (⟨.nil, 0⟩ : St).get id ≠ some k := fun id k h => by cases h
  refine ⟨⟨?_, ?_, ?_, ?_⟩, Below.refl _ w, Nat.le_refl _, ?_, ?_, ?_, ?_⟩
  · intro id cs root pos wr al h; exact absurd h (no _ _)
  · intro id cs root pos wr al h; exact absurd h (no _ _)
  · intro id cs root pos wr tl h; exact absurd h (no _ _)
  · intro id cs root pos wr al tl h; exact absurd h (no _ _)
  · intro id r h; cases h
  · intro id k r h; exact absurd h (no _ _)
  · intro id k r h; exact absurd h (no _ _)
  · intro id k r id' k' r' h; exact absurd h (no _ _)

/-! ### Unknown tests -/
def chk (E : Env) : Nat → CC → AFr → St → (AE → AFr → St → Bool) → Bool
  | 0, _, _, _, _ => false
  | f + 1, c, fr, S, k =>
    match c with
    | .seq a b => chk E f a fr S fun e fr' S' => match e with
      | .normal => chk E f b fr' S' k
      | e => k e fr' S'
    | .cond x a b => match fr.ev x with
      | .bool true => chk E f a fr S k
      | .bool false => chk E f b fr S k
      | .any .b => chk E f a fr S k && chk E f b fr S k
      | _ => false
    | .block id a => chk E f a fr S fun e fr' S' => match e with
      | .exit j => match Nat.beq j id with
        | true => k .normal fr' S'
        | false => k (.exit j) fr' S'
      | e => k e fr' S'
    | .loop a => chk E f a fr S fun e fr' S' => match e with
      | .normal => chk E f (.loop a) fr' S' k
      | e => k e fr' S'
    | c => match exec E (f + 1) c fr S with
      | some (e, fr', S') => k e fr' S'
      | none => false

section
variable {P : Program} {B : Nat} {w0 w : World} {ρ : Pl} {S : St} {fr : AFr} {a : Act}
def Out (B : Nat) (w0 : World) (ρ : Pl) (S : St) (k : AE → AFr → St → Bool) : Exit → Act → World → Prop :=
  fun x a' w' => ∃ e fr' S', k e fr' S' = true ∧ After B w0 ρ S e fr' S' x a' w'
theorem Out.behind {ρ' : Pl} {S' : St} {w' : World} {k : AE → AFr → St → Bool} (hp : Post B w0 ρ S (fun _ => False) ρ' S' w') {x : Exit} {a2 : Act} {w2 : World} (h : Out B w0 ρ' S' k x a2 w2) : Out B w0 ρ S k x a2 w2 := by
  obtain ⟨e, fr2, S2, hk, rfl, hd, ρ2, hp2, hF⟩ := h
  exact ⟨e, fr2, S2, hk, rfl, hd, ρ2, hp.trans hp2 (fun q hq _ => hq) (fun q hq _ => hq), hF⟩
theorem chk_sound {E : Env} (hE : E.Ok P) : ∀ (f : Nat) (c : Code) (cc : CC) (fr : AFr) (S : St) (k : AE → AFr → St → Bool) (ρ : Pl) (a : Act) (w : World), compC P c = some cc → chk E f cc fr S k = true → FR ρ fr a → R B w0 ρ S w → a.defers = [] →
    c.wp P (Out B w0 ρ S k) a w := by
  intro f
  induction f using Nat.strongRecOn with
  | _ f ihs =>
  cases f with
  | zero => intro c cc fr S k ρ a w hc h; cases h
  | succ f =>
    have ih := ihs f (Nat.lt_succ_self f)
    intro c cc fr S k ρ a w hc h hF hR hd
    have leaf : (match exec E (f + 1) cc fr S with | some (e, fr', S') => k e fr' S' | none => false) = true → c.wp P (Out B w0 ρ S k) a w := by
      intro h
      cases hx : exec E (f + 1) cc fr S with
      | none => rw [hx] at h; cases h
      | some q =>
        obtain ⟨e, fr', S'⟩ := q
        rw [hx] at h
        exact wp_mono (exec_sound hE (f + 1) c cc fr S e fr' S' ρ a w hc hx hF hR hd) (fun x a' w' ha => ⟨e, fr', S', h, ha⟩)
    have hfull := h
    cases c
    case seq x y =>
      simp only [compC] at hc
      split at hc
      · rename_i cx cy hx hy
        obtain rfl := Option.some.inj hc
        simp only [chk] at h
        refine wp_seq (wp_mono (ih x cx fr S _ ρ a w hx h hF hR hd) ?_)
        rintro z a' w' ⟨e, fr', S', hk, rfl, hd', ρ', hp', hF'⟩
        cases e with
        | normal => exact wp_mono (ih y cy fr' S' k ρ' a' w' hy hk hF' hp'.r hd') (fun z a2 w2 ho => ho.behind hp')
        | ret => exact ⟨_, fr', S', hk, rfl, hd', ρ', hp', hF'⟩
        | exit id => exact ⟨_, fr', S', hk, rfl, hd', ρ', hp', hF'⟩
      · cases hc
    case cond t x y =>
      simp only [compC] at hc
      split at hc
      · rename_i ct cx cy ht hx hy
        obtain rfl := Option.some.inj hc
        have hv := hF.ev ht
        simp only [chk] at h
        split at h
        · rename_i e0
          rw [e0] at hv
          generalize hvt : a.eval t = vt at hv
          cases hv
          exact wp_cond_true hvt (ih x cx fr S k ρ a w hx h hF hR hd)
        · rename_i e0
          rw [e0] at hv
          generalize hvt : a.eval t = vt at hv
          cases hv
          exact wp_cond_false hvt (ih y cy fr S k ρ a w hy h hF hR hd)
        · rename_i e0
          rw [e0] at hv
          generalize hvt : a.eval t = vt at hv
          cases hv
          rename_i hb
          obtain ⟨b, rfl⟩ := hb
          simp only [Bool.and_eq_true] at h
          exact wp_cond_split hvt (fun _ => ih x cx fr S k ρ a w hx h.1 hF hR hd) (fun _ => ih y cy fr S k ρ a w hy h.2 hF hR hd)
        · cases h
      · cases hc
    case block id x =>
      simp only [compC, Option.map_eq_some_iff] at hc
      obtain ⟨cx, hx, rfl⟩ := hc
      simp only [chk] at h
      refine wp_block (wp_mono (ih x cx fr S _ ρ a w hx h hF hR hd) ?_)
      rintro z a' w' ⟨e, fr', S', hk, rfl, hd', ρ', hp', hF'⟩
      cases e with
      | normal => exact ⟨_, fr', S', hk, rfl, hd', ρ', hp', hF'⟩
      | ret => exact ⟨_, fr', S', hk, rfl, hd', ρ', hp', hF'⟩
      | exit j =>
        show Exit.inBlock id (Out B w0 ρ S k) (.exit j) a' w'
        unfold Exit.inBlock
        simp only [] at hk
        cases hj : Nat.beq j id with
        | true =>
          rw [hj] at hk
          simp only [Nat.eq_of_beq_eq_true hj, if_true]
          exact ⟨_, fr', S', hk, rfl, hd', ρ', hp', hF'⟩
        | false =>
          rw [hj] at hk
          have hne : j ≠ id := by rintro rfl; simp at hj
          simp only [hne, if_false]
          exact ⟨_, fr', S', hk, rfl, hd', ρ', hp', hF'⟩
    case loop x =>
      simp only [compC, Option.map_eq_some_iff] at hc
      obtain ⟨cx, hx, rfl⟩ := hc
      have key : ∀ (g : Nat), g ≤ f + 1 → ∀ (fr1 : AFr) (S1 : St) (ρ1 : Pl) (a1 : Act) (w1 : World), chk E g (.loop cx) fr1 S1 k = true → FR ρ1 fr1 a1 → Post B w0 ρ S (fun _ => False) ρ1 S1 w1 → a1.defers = [] → Code.rounds P x (Out B w0 ρ S k) g a1 w1 := by
        intro g
        induction g with
        | zero => intro _ fr1 S1 ρ1 a1 w1 h1; cases h1
        | succ g ihg =>
          intro hg fr1 S1 ρ1 a1 w1 h1 hF1 hp1 hd1
          simp only [chk] at h1
          refine wp_mono (ihs g (by omega) x cx fr1 S1 _ ρ1 a1 w1 hx h1 hF1 hp1.r hd1) ?_
          rintro z a' w' ⟨e, fr', S', hk, rfl, hd', ρ', hp', hF'⟩
          have hpp := hp1.trans hp' (ex'' := fun _ => False) (fun q hq _ => hq) (fun q hq _ => hq)
          cases e with
          | normal => exact ihg (by omega) fr' S' ρ' a' w' hk hF' hpp hd'
          | ret => exact ⟨_, fr', S', hk, rfl, hd', ρ', hpp, hF'⟩
          | exit j => exact ⟨_, fr', S', hk, rfl, hd', ρ', hpp, hF'⟩
      exact wp_loop_rounds (f + 1) (key (f + 1) (Nat.le_refl _) fr S ρ a w h hF (.refl hR) hd)
    case region id ops draw =>
      refine leaf ?_
      cases draw with
      | false =>
        simp only [compC, Option.map_eq_some_iff] at hc
        obtain ⟨l, hl, rfl⟩ := hc
        exact h
      | true =>
        simp only [compC] at hc
        split at hc
        · split at hc
          · obtain rfl := Option.some.inj hc
            exact h
          · cases hc
        · cases hc
    case skip => simp only [compC, Option.some.injEq] at hc; subst hc; exact leaf h
    case exit id => simp only [compC, Option.some.injEq] at hc; subst hc; exact leaf h
    case ret => simp only [compC, Option.some.injEq] at hc; subst hc; exact leaf h
    all_goals cases hc

/-- The function returns this value. -/
def retIs (cf : CFun) (p : List AV → Bool) : AE → AFr → St → Bool := fun e fr S =>
  match e with
  | .exit _ => false
  | _ => match ressOf fr S cf.res with
    | some vs => p vs
    | none => false
theorem calls_of_chk {E : Env} (hE : E.Ok P) {f g : Nat} {cf : CFun} {args : List AV} {xs : List Value} {p : List AV → Bool} (hg : FnOk P g cf) (hl : Nat.ble args.length cf.n = true) (h : chk E f cf.body (aframe cf.n args) S (retIs cf p) = true) (hx : VL ρ args xs) (hR : R B w0 ρ S w) :
    Calls P g xs.toArray w (fun en w' => ∃ x vs, en = .returned x ∧ p vs = true ∧ ∃ ρ' S', Post B w0 ρ S (fun _ => False) ρ' S' w' ∧ V ρ' (tupOf vs) x) := by
  obtain ⟨fn, hf, hname, hcf⟩ := hg
  unfold compFn at hcf
  split at hcf
  case h_2 => cases hcf
  rename_i c hb
  split at hcf
  case h_2 => cases hcf
  rename_i x r hx' hr
  obtain rfl := Option.some.inj hcf
  refine calls_of_wp hf hb ?_
  refine wp_mono (chk_sound hE f c x _ S _ ρ _ w hx' h (aframe_fr hx (Nat.le_of_ble_eq_true hl) []) hR rfl) ?_
  rintro ex a' w' ⟨e, fr', S', hk, rfl, hd, ρ', hp, hF'⟩
  unfold retIs at hk
  have fin : ∀ {b : Bool}, (match ressOf fr' S' r with | some vs => p vs | none => false) = true → a'.defers = [] ∧ ∃ v, (results fn a'.tmps).run P w' = .ok v w' ∧ ∃ x vs, Ending.returned v = .returned x ∧ p vs = true ∧ ∃ ρ' S', Post B w0 ρ S (fun _ => False) ρ' S' w' ∧ V ρ' (tupOf vs) x := by
    intro _ hk
    split at hk
    · rename_i vs hvs
      obtain ⟨y, hy, hrs⟩ := results_sound (P := P) hF' hp.r hr hvs
      exact ⟨hd, y, hrs, y, vs, rfl, hk, ρ', S', hp, hy⟩
    · cases hk
  cases e with
  | normal => exact fin (b := true) hk
  | ret => exact fin (b := true) hk
  | exit id => cases hk
def isTrue : List AV → Bool
  | [.bool true] => true
  | _ => false
/-- The function returns true and leaves what was there as it was. -/
theorem true_of_chk {E : Env} (hE : E.Ok P) {f g : Nat} {cf : CFun} {args : List AV} {xs : List Value} (hg : FnOk P g cf) (hl : Nat.ble args.length cf.n = true) (h : chk E f cf.body (aframe cf.n args) ⟨.nil, 0⟩ (retIs cf isTrue) = true) (hx : VL (fun _ => none) args xs) (w : World) :
    Calls P g xs.toArray w (fun en w' => en = .returned (.bool true) ∧ Below w.heap.size w w') := by
  refine Calls.mono (calls_of_chk hE hg hl h hx (R.start w)) ?_
  rintro en w' ⟨x, vs, rfl, hp, ρ', S', hpo, hv⟩
  unfold isTrue at hp
  split at hp
  · cases hv
    exact ⟨rfl, hpo.r.below⟩
  · cases hp
end
end Go.Eng
