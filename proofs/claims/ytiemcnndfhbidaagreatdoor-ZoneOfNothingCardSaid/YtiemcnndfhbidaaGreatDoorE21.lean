/-
  A region in whatever order: which operations may change places.
-/
import Derived.Test.YtiemcnndfhbidaaGreatDoorE20
set_option linter.unusedSimpArgs false
set_option linter.unusedVariables false
set_option linter.unusedSectionVars false
namespace Go.Eng
open Go.RowKit (Below)

theorem wfoot_foot {ci : CI} {ev : Opd → AV} {rid : Nat} : ∀ i ∈ ci.wfoot ev rid, i ∈ ci.foot ev rid := by
  intro i hi
  cases ci <;> simp_all [CI.wfoot, CI.foot]
  all_goals (rcases hi with h | h <;> simp [h])
theorem stay_put {ci : CI} {ev : Opd → AV} {rid id : Nat} {S : St} (k : Blk) (hw : ci.wild = false) (hid : id ∉ ci.foot ev rid) : stay ci ev rid (S.put id k) = stay ci ev rid S := by
  unfold stay
  split
  · have h : rid ≠ id := by rintro rfl; exact hid (by simp [CI.foot])
    rw [St.get_put_ne _ _ h]
  · have h : rid ≠ id := by rintro rfl; exact hid (by simp [CI.foot])
    rw [St.get_put_ne _ _ h]
  all_goals first
    | rfl
    | (rw [aop_put k hw hid]
       cases aop _ ev rid S <;> rfl)
theorem stay_puts {ci : CI} {ev : Opd → AV} {rid : Nat} (hw : ci.wild = false) : ∀ (l : List (Nat × Blk)) (S : St), (∀ p ∈ l, p.1 ∉ ci.foot ev rid) → stay ci ev rid (S.puts l) = stay ci ev rid S
  | [], _, _ => rfl
  | p :: l, S, h => by
    simp only [St.puts]
    rw [stay_puts hw l _ (fun q hq => h q (List.mem_cons_of_mem _ hq)), stay_put p.2 hw (h p List.mem_cons_self)]

/-- What an operation that is no call does. -/
def RelN (c : COp) (ev : Opd → AV) (rid : Nat) (v : AV) (S T : St) : Prop :=
  (c.pre = true ∧ stay c.ci ev rid S = some v ∧ T = S) ∨ (c.pre = false ∧ aop c.ci ev rid S = some (v, T))
theorem RelN.eff {c : COp} {ev : Opd → AV} {rid : Nat} {v : AV} {S T : St} (hw : c.ci.wild = false) (h : RelN c ev rid v S T) : Eff S T (c.ci.wfoot ev rid) := by
  rcases h with ⟨_, _, rfl⟩ | ⟨_, h⟩
  · exact .same _ _
  · exact aop_eff hw h
theorem RelN.back {c : COp} {ev : Opd → AV} {rid : Nat} {v : AV} {S U : St} {l : List (Nat × Blk)} (hw : c.ci.wild = false) (hl : ∀ p ∈ l, p.1 ∉ c.ci.foot ev rid) (h : RelN c ev rid v (S.puts l) U) :
    ∃ T, RelN c ev rid v S T ∧ U = T.puts l := by
  rcases h with ⟨hp, h, rfl⟩ | ⟨hp, h⟩
  · rw [stay_puts hw l S hl] at h
    exact ⟨S, .inl ⟨hp, h, rfl⟩, rfl⟩
  · rw [aop_puts hw l S hl] at h
    cases ha : aop c.ci ev rid S with
    | none => rw [ha] at h; cases h
    | some q =>
      obtain ⟨u, T⟩ := q
      rw [ha] at h
      obtain ⟨rfl, rfl⟩ := Prod.mk.inj (Option.some.inj h)
      exact ⟨T, .inr ⟨hp, ha⟩, rfl⟩
theorem RelN.forth {c : COp} {ev : Opd → AV} {rid : Nat} {v : AV} {S T : St} {l : List (Nat × Blk)} (hw : c.ci.wild = false) (hl : ∀ p ∈ l, p.1 ∉ c.ci.foot ev rid) (h : RelN c ev rid v S T) : RelN c ev rid v (S.puts l) (T.puts l) := by
  rcases h with ⟨hp, h, rfl⟩ | ⟨hp, h⟩
  · exact .inl ⟨hp, by rw [stay_puts hw l _ hl]; exact h, rfl⟩
  · exact .inr ⟨hp, by rw [aop_puts hw l S hl, h]; rfl⟩
theorem RelN.swap {c d : COp} {ev ev' : Opd → AV} {r r' : Nat} {v v' : AV} {S T U : St} (hc : c.ci.wild = false) (hd : d.ci.wild = false) (h1 : ∀ i ∈ c.ci.wfoot ev r, i ∉ d.ci.foot ev' r') (h2 : ∀ i ∈ d.ci.wfoot ev' r', i ∉ c.ci.foot ev r)
    (hS : RelN c ev r v S T) (hT : RelN d ev' r' v' T U) : ∃ T', RelN d ev' r' v' S T' ∧ RelN c ev r v T' U := by
  obtain ⟨l, rfl, hl⟩ := hS.eff hc
  obtain ⟨T', h3, rfl⟩ := hT.back hd (fun p hp => h1 _ (hl p hp))
  obtain ⟨m, rfl, hm⟩ := h3.eff hd
  refine ⟨_, h3, ?_⟩
  rw [← St.puts_puts l m S (fun p hp q hq e => h1 _ (hl p hp) (by rw [e]; exact wfoot_foot _ (hm q hq)))]
  exact hS.forth hc (fun p hp => h2 _ (hm p hp))
theorem stay_pure {ci : CI} {ev : Opd → AV} {r : Nat} (S U : St) (ht : ci.touch = false) : stay ci ev r S = stay ci ev r U := by
  cases ci <;> first
    | rfl
    | (cases ht; done)
    | (simp only [stay]
       obtain ⟨q, hq⟩ := aop_pure ev r ht
       rw [hq, hq]
       cases q <;> rfl)
theorem RelN.pure {c : COp} {ev : Opd → AV} {r : Nat} {v : AV} {S T : St} (ht : c.ci.touch = false) (h : RelN c ev r v S T) : T = S ∧ ∀ U, RelN c ev r v U U := by
  rcases h with ⟨hp, h, rfl⟩ | ⟨hp, h⟩
  · exact ⟨rfl, fun U => .inl ⟨hp, by rw [stay_pure U _ ht]; exact h, rfl⟩⟩
  · obtain ⟨q, hq⟩ := aop_pure ev r ht
    rw [hq, Option.map_eq_some_iff] at h
    obtain ⟨u, hu, e⟩ := h
    obtain ⟨rfl, rfl⟩ := Prod.mk.inj e
    exact ⟨rfl, fun U => .inr ⟨hp, by rw [hq, hu]; rfl⟩⟩
/-- One that only looks. -/
theorem RelN.easy {c : COp} {ev : Opd → AV} {r : Nat} {v : AV} {S T : St} (he : c.easy = true) (h : RelN c ev r v S T) : T = S ∧ stay c.ci ev r S = some v := by
  rcases h with ⟨hp, h, rfl⟩ | ⟨hp, h⟩
  · exact ⟨rfl, h⟩
  · unfold COp.easy at he
    have key : c.ci.wild = false → c.ci.wfoot ev r = [] → T = S := fun hw h0 => by
      obtain ⟨l, rfl, hl⟩ := aop_eff hw h
      cases l with
      | nil => rfl
      | cons p l => exact absurd (hl p List.mem_cons_self) (by rw [h0]; simp)
    split at he
    all_goals first
      | (rename_i e; exact ⟨key (by rw [e]; rfl) (by rw [e]; rfl), by rw [e] at h ⊢; simp [stay, h]⟩)
      | (rw [hp] at he; cases he)
      | cases he
theorem RelN.of_stay {c : COp} {ev : Opd → AV} {r : Nat} {v : AV} {S : St} (h : stay c.ci ev r S = some v) : RelN c ev r v S S := by
  cases hp : c.pre with
  | true => exact .inl ⟨hp, h, rfl⟩
  | false => exact .inr ⟨hp, stay_aop h⟩

/-! ### What was looked at -/
theorem sameL_eq : ∀ {x y : List AV}, sameL x y = true → x = y
  | [], [], _ => rfl
  | [], _ :: _, h => by simp [sameL] at h
  | _ :: _, [], h => by simp [sameL] at h
  | a :: x, b :: y, h => by
    simp only [sameL] at h
    split at h
    · rename_i e
      rw [AV.same_eq e, sameL_eq h]
    · cases h
theorem sameV_eq {a b : AV} (h : sameV a b = true) : a = b := by
  unfold sameV at h
  split at h
  · rw [sameL_eq h]
  · exact AV.same_eq h

theorem lookP_spec {tr : List TrE} : ∀ {ps : List (Nat × Nat)}, lookP tr ps = true → ∀ i j, (i, j) ∈ ps → ∀ a b, tr[i]? = some a → tr[j]? = some b → wants a.fr a.o.guard = some true → wants b.fr b.o.guard = some true →
    (∀ q ∈ a.o.ci.wfoot a.fr.ev a.rid, q ∉ b.o.ci.foot b.fr.ev b.rid) ∧ (∀ q ∈ b.o.ci.wfoot b.fr.ev b.rid, q ∉ a.o.ci.foot a.fr.ev a.rid)
  | [], _, i, j, hm, _, _, _, _, _, _ => by cases hm
  | (i0, j0) :: ps, h, i, j, hm, a, b, ha, hb, wa, wb => by
    simp only [lookP] at h
    split at h
    · rename_i a0 b0 ha0 hb0
      simp only [Bool.and_eq_true, Bool.or_eq_true] at h
      rcases List.mem_cons.1 hm with e | hm
      · obtain ⟨rfl, rfl⟩ := Prod.mk.inj e
        obtain rfl := Option.some.inj (ha.symm.trans ha0)
        obtain rfl := Option.some.inj (hb.symm.trans hb0)
        simp only [wantsNo, wa, wb, Bool.false_eq_true, or_false, false_or] at h
        exact ⟨disj_spec h.1.1, disj_spec h.1.2⟩
      · exact lookP_spec h.2 i j hm a b ha hb wa wb
    · cases h
theorem lookC_spec {tr : List TrE} : ∀ {ps : List (Nat × Nat)}, lookC tr ps = true → ∀ i j, (i, j) ∈ ps → ∀ a b, tr[i]? = some a → tr[j]? = some b → wants a.fr a.o.guard = some true → wants b.fr b.o.guard = some true →
    ∃ v, stay b.o.ci b.fr.ev b.rid a.S = some v ∧ stay b.o.ci b.fr.ev b.rid a.T = some v
  | [], _, i, j, hm, _, _, _, _, _, _ => by cases hm
  | (i0, j0) :: ps, h, i, j, hm, a, b, ha, hb, wa, wb => by
    simp only [lookC] at h
    split at h
    · rename_i a0 b0 ha0 hb0
      simp only [Bool.and_eq_true, Bool.or_eq_true] at h
      rcases List.mem_cons.1 hm with e | hm
      · obtain ⟨rfl, rfl⟩ := Prod.mk.inj e
        obtain rfl := Option.some.inj (ha.symm.trans ha0)
        obtain rfl := Option.some.inj (hb.symm.trans hb0)
        simp only [wantsNo, wa, wb, Bool.false_eq_true, or_false, false_or] at h
        have h := h.1
        split at h
        · rename_i u v hu hv
          exact ⟨u, hu, by rw [hv, sameV_eq h]⟩
        · cases h
      · exact lookC_spec h.2 i j hm a b ha hb wa wb
    · cases h

/-! ### The operations of a region as steps of a state -/
section
variable (cos : List COp) (F : Nat → AFr) (SS : Nat → St) (vv : Nat → AV) (rid : Nat)
def Item (i : Nat) (S T : St) : Prop :=
  ∃ c, cos[i]? = some c ∧ ((wants (F i) c.guard = some false ∧ T = S) ∨ (wants (F i) c.guard = some true ∧
    ((isCall c.ci = true ∧ c.pre = false ∧ S = SS i ∧ T = SS (i + 1)) ∨ (isCall c.ci = false ∧ RelN c (F i).ev (rid + i) (vv i) S T))))
variable {cos F SS vv rid}
theorem isCall_wild {ci : CI} (h : isCall ci = true) : ci.wild = true := by
  cases ci <;> first | rfl | cases h
theorem isCall_of_wild {ci : CI} (h : ci.wild = false) : isCall ci = false := by
  cases ci <;> first | rfl | cases h
theorem isCall_of_pure {ci : CI} (h : ci.touch = false) : isCall ci = false := by
  cases ci <;> first | rfl | cases h
theorem easy_noCall {c : COp} (h : c.easy = true) : isCall c.ci = false := by
  unfold COp.easy at h
  split at h <;> first | (rename_i e; rw [e]; rfl) | cases h

theorem item_indep {tr : List TrE} {ms : List Nat} {ps cs : List (Nat × Nat)} (hps : lookP tr ps = true) (hcs : lookC tr cs = true)
    (htr : ∀ (i : Nat) (c : COp), cos[i]? = some c → tr[i]? = some ⟨c, rid + i, F i, SS i, SS (i + 1), vv i⟩)
    {i j : Nat} {a b : COp} (ha : cos[i]? = some a) (hb : cos[j]? = some b) (hpre : ∀ (i : Nat) (c : COp), cos[i]? = some c → c.pre = true → isAlloc c.ci = true)
    (hok : pairOk ms ps cs i a j b = true) (hnb : Nat.testBit (ms.getD j 0) i = false) : Indep (Item cos F SS vv rid) i j := by
  intro S T U h1 h2
  obtain ⟨a', ha', h1⟩ := h1
  obtain rfl := Option.some.inj (ha.symm.trans ha')
  obtain ⟨b', hb', h2⟩ := h2
  obtain rfl := Option.some.inj (hb.symm.trans hb')
  rcases h1 with ⟨wa, rfl⟩ | ⟨wa, h1⟩
  · exact ⟨U, ⟨b, hb, h2⟩, ⟨a, ha, .inl ⟨wa, rfl⟩⟩⟩
  rcases h2 with ⟨wb, rfl⟩ | ⟨wb, h2⟩
  · exact ⟨S, ⟨b, hb, .inl ⟨wb, rfl⟩⟩, ⟨a, ha, .inr ⟨wa, h1⟩⟩⟩
  unfold pairOk at hok
  rw [hnb] at hok
  simp only [Bool.false_or, Bool.or_eq_true, Bool.not_eq_true'] at hok
  rcases hok with (hta | htb) | hok
  · have hn := isCall_of_pure hta
    rcases h1 with ⟨hc, _⟩ | ⟨_, h1⟩
    · rw [hn] at hc; cases hc
    obtain ⟨rfl, hU⟩ := h1.pure hta
    exact ⟨U, ⟨b, hb, .inr ⟨wb, h2⟩⟩, ⟨a, ha, .inr ⟨wa, .inr ⟨hn, hU U⟩⟩⟩⟩
  · have hn := isCall_of_pure htb
    rcases h2 with ⟨hc, _⟩ | ⟨_, h2⟩
    · rw [hn] at hc; cases hc
    obtain ⟨rfl, hU⟩ := h2.pure htb
    exact ⟨S, ⟨b, hb, .inr ⟨wb, .inr ⟨hn, hU S⟩⟩⟩, ⟨a, ha, .inr ⟨wa, h1⟩⟩⟩
  · split at hok
    · rename_i hwa hwb
      have na := isCall_of_wild hwa
      have nb := isCall_of_wild hwb
      rcases h1 with ⟨hc, _⟩ | ⟨_, h1⟩
      · rw [na] at hc; cases hc
      rcases h2 with ⟨hc, _⟩ | ⟨_, h2⟩
      · rw [nb] at hc; cases hc
      obtain ⟨d1, d2⟩ := lookP_spec hps i j (memP_iff hok) _ _ (htr i a ha) (htr j b hb) wa wb
      obtain ⟨T', g1, g2⟩ := h1.swap hwa hwb d1 d2 h2
      exact ⟨T', ⟨b, hb, .inr ⟨wb, .inr ⟨nb, g1⟩⟩⟩, ⟨a, ha, .inr ⟨wa, .inr ⟨na, g2⟩⟩⟩⟩
    · rename_i hwa hwb
      simp only [Bool.and_eq_true] at hok
      obtain ⟨⟨hca, heb⟩, hm⟩ := hok
      have nb := easy_noCall heb
      rcases h2 with ⟨hc, _⟩ | ⟨_, h2⟩
      · rw [nb] at hc; cases hc
      rcases h1 with ⟨_, hpa, rfl, rfl⟩ | ⟨hc, _⟩
      case inr => rw [hca] at hc; cases hc
      obtain ⟨rfl, hs⟩ := h2.easy heb
      obtain ⟨v, s1, s2⟩ := lookC_spec hcs i j (memP_iff hm) _ _ (htr i a ha) (htr j b hb) wa wb
      have s1 : stay b.ci (F j).ev (rid + j) (SS i) = some v := s1
      have s2 : stay b.ci (F j).ev (rid + j) (SS (i + 1)) = some v := s2
      obtain rfl := Option.some.inj (s2.symm.trans hs)
      exact ⟨SS i, ⟨b, hb, .inr ⟨wb, .inr ⟨nb, .of_stay s1⟩⟩⟩, ⟨a, ha, .inr ⟨wa, .inl ⟨hca, hpa, rfl, rfl⟩⟩⟩⟩
    · rename_i hwa hwb
      simp only [Bool.and_eq_true] at hok
      obtain ⟨⟨hcb, hea⟩, hm⟩ := hok
      have na := easy_noCall hea
      rcases h1 with ⟨hc, _⟩ | ⟨_, h1⟩
      · rw [na] at hc; cases hc
      rcases h2 with ⟨_, hpb, e1, rfl⟩ | ⟨hc, _⟩
      case inr => rw [hcb] at hc; cases hc
      obtain ⟨rfl, hs⟩ := h1.easy hea
      subst e1
      obtain ⟨v, s1, s2⟩ := lookC_spec hcs j i (memP_iff hm) _ _ (htr j b hb) (htr i a ha) wb wa
      have s1 : stay a.ci (F i).ev (rid + i) (SS j) = some v := s1
      have s2 : stay a.ci (F i).ev (rid + i) (SS (j + 1)) = some v := s2
      obtain rfl := Option.some.inj (s1.symm.trans hs)
      exact ⟨SS (j + 1), ⟨b, hb, .inr ⟨wb, .inl ⟨hcb, hpb, rfl, rfl⟩⟩⟩, ⟨a, ha, .inr ⟨wa, .inr ⟨na, .of_stay s2⟩⟩⟩⟩
    · cases hok
end
end Go.Eng
