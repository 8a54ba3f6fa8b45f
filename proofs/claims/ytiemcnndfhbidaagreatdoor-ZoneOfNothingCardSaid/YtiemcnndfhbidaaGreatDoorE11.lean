/-
  Structs and slices built, copied, cleared, appended to: carried out alike.
-/
import Derived.Test.YtiemcnndfhbidaaGreatDoorE10
import Derived.Laws.Tables
set_option linter.unusedSimpArgs false
namespace Go.Eng
open Go.RowKit (Below)
variable {P : Program} {B : Nat} {w0 w : World} {ρ : Pl} {S : St} {fr : AFr} {a : Act} {rid : Nat}

theorem foldl_arrSet : ∀ (l : List Value) (k off : Nat) (c : Array Value), (l.zipIdx k).foldl (fun cs (p : Value × Nat) => cs.setIfInBounds (off + p.2) p.1) c = arrSet c (off + k) l
  | [], _, _, _ => rfl
  | v :: l, k, off, c => by
    rw [List.zipIdx_cons, List.foldl_cons, foldl_arrSet l (k + 1) off, arrSet]
    rfl
theorem setAt_VL : ∀ {vs : List AV} {xs : List Value}, VL ρ vs xs → ∀ {cs : List AV} {c : Array Value} (k : Nat), VL ρ cs c.toList → VL ρ (setAt cs k vs) (arrSet c k xs).toList
  | _, _, .nil, _, _, _, h => h
  | _, _, .cons hv hl, cs, c, k, h => by
    simp only [setAt, arrSet]
    exact setAt_VL hl (k + 1) (by rw [Array.toList_setIfInBounds]; exact VL.set hv k h)
theorem fill_sound (hF : FR ρ fr a) {place : Nat → Option (Nat × Nat)} : ∀ {ps : List (Nat × Operand)} {qs : List (Nat × Nat × Opd)} {cs cs' : List AV} {c : Array Value}, cParts place ps = some qs → VL ρ cs c.toList → aFill cs fr.ev qs = some cs' →
    ∃ c', Instr.fill place c (ps.map fun p => (p.1, a.eval p.2)) = some c' ∧ VL ρ cs' c'.toList
  | [], qs, cs, cs', c, hp, hc, h => by
    simp only [cParts, Option.some.injEq] at hp
    subst hp
    simp only [aFill, Option.some.injEq] at h
    subst h
    exact ⟨c, rfl, hc⟩
  | (i, x) :: ps, qs, cs, cs', c, hp, hc, h => by
    simp only [cParts] at hp
    split at hp
    · rename_i off size y hpl hy
      simp only [Option.map_eq_some_iff] at hp
      obtain ⟨qs, hqs, rfl⟩ := hp
      simp only [aFill] at h
      split at h
      · rename_i e1 e2
        have e1 := Nat.eq_of_beq_eq_true e1
        have e2 := Nat.le_of_ble_eq_true e2
        have hv := (hF.ev hy).cells
        have hlen := hv.length
        have hcl := hc.length
        have hset := setAt_VL hv (c := c) off hc
        obtain ⟨c', h1, h2⟩ := fill_sound hF (c := arrSet c off (a.eval x).cells.toList) hqs hset h
        refine ⟨c', ?_, h2⟩
        simp only [List.map_cons, Instr.fill, hpl]
        have hsz : (a.eval x).cells.size = size := by rw [← e1, hlen]; simp
        have hle : ¬ (off + (a.eval x).cells.size > c.size) := by
          have : c.size = cs.length := by rw [hcl]; simp
          rw [this, hsz, ← e1]; omega
        have hfold : (a.eval x).cells.zipIdx.foldl (fun cs (p : Value × Nat) => cs.setIfInBounds (off + p.2) p.1) c = arrSet c off (a.eval x).cells.toList := by
          rw [← Array.foldl_toList, Array.toList_zipIdx, foldl_arrSet]
          rfl
        simp only [hsz, ne_eq, not_true_eq_false, decide_false, Bool.false_or, decide_eq_true_eq]
        rw [if_neg (by rw [← hsz]; exact hle)]
        rw [← h1]
        congr 1
      · cases h
    · cases hp

theorem oneCells {vs : List AV} {xs : List Value} (h : VL ρ vs xs) (ho : ∀ v ∈ vs, v.one = true) : ∀ v ∈ xs, v.oneCell' = true := by
  induction xs generalizing vs with
  | nil => simp
  | cons y ys ih =>
    cases h
    rename_i b bs hb hbs
    intro v hv
    rcases List.mem_cons.1 hv with rfl | hv
    · exact hb.one_oneCell (ho b List.mem_cons_self)
    · exact ih hbs (fun u hu => ho u (List.mem_cons_of_mem _ hu)) v hv
theorem allOne_mem : ∀ {l : List AV}, allOne l = true → ∀ v ∈ l, v.one = true
  | [], _, v, hv => by cases hv
  | x :: l, h, v, hv => by
    simp only [allOne] at h
    split at h
    · rename_i e
      rcases List.mem_cons.1 hv with rfl | hv
      · exact e
      · exact allOne_mem h v hv
    · cases h

theorem cell_heap {w w' : World} (h : w'.heap = w.heap) (a : Addr) : w'.cell? a = w.cell? a := by unfold World.cell?; rw [h]
/-- The elements of a slice, or the bytes of a string. -/
theorem elems_sound {sz n : Nat} {v : AV} {u : Value} {l : List AV} (hR : R B w0 ρ S w) (hv : V ρ v u) (h : elems S sz v = some (n, l)) :
    ∃ xs, VL ρ l xs ∧ xs.length = n * sz ∧ (Builtin.lenOf u).run P w = .ok n w ∧ (∀ m, m ≤ n → ∀ w', w'.heap = w.heap → (Builtin.firstCells sz m u).run P w' = .ok (xs.take (m * sz)).toArray w') := by
  unfold elems at h
  split at h
  · simp only [Option.some.injEq, Prod.mk.injEq] at h
    obtain ⟨rfl, rfl⟩ := h
    cases hv
    exact ⟨[], .nil, by simp, rfl, fun m _ w' _ => by simp [Builtin.firstCells]⟩
  · rename_i id off len cap
    simp only [Option.map_eq_some_iff, Prod.mk.injEq] at h
    obtain ⟨l, hl, rfl, rfl⟩ := h
    cases hv
    rename_i c r ad hr hlen had hfit
    obtain ⟨xs, h1, h2, h3⟩ := row_values hR hr hl
    refine ⟨xs, h1, h2, rfl, fun m hm w' hw' => ?_⟩
    by_cases hz : len = 0 ∧ c = 0
    · have : m = 0 := by omega
      subst this
      simp [Builtin.firstCells, loadCells, loadCellsFrom]
    · have had := had.resolve_left hz
      subst had
      have hml : m * sz ≤ xs.length := by rw [h2]; exact Nat.mul_le_mul_right _ hm
      have := run_loadCells_list (P := P) w' ⟨r.b, r.sh + off, none⟩ (xs.take (m * sz)) (fun j v hj => by
        rw [add_eq, cell_heap hw']
        refine h3 j v ?_
        rw [List.getElem?_take] at hj
        split at hj
        · exact hj
        · cases hj)
      rw [List.length_take, Nat.min_eq_left hml] at this
      simpa [Builtin.firstCells] using this
  · rename_i s
    split at h
    case h_2 => cases h
    rename_i hsz
    obtain rfl := Nat.eq_of_beq_eq_true hsz
    simp only [Option.some.injEq, Prod.mk.injEq] at h
    obtain ⟨rfl, rfl⟩ := h
    cases hv
    rename_i s' hs
    subst hs
    have hVL : ∀ (l : List UInt8), VL ρ ((l.map UInt8.toNat).map fun b => AV.int .u8 (Int.ofNat b)) (l.map fun b => Value.int .u8 b.toNat) := by
      intro l
      induction l with
      | nil => exact .nil
      | cons b l ih => exact .cons .int ih
    refine ⟨_, hVL s'.data.toList, by simp [bs], ?_, fun m hm w' _ => ?_⟩
    · simp [Builtin.lenOf, bs_length]
    · have hm : m ≤ s'.size := by rw [← bs_length]; exact hm
      simp only [Builtin.firstCells, Sem.run_pure, Nat.mul_one]
      congr 1
      apply Array.ext'
      rw [Array.toList_map, Lib.extract_data]
      simp [List.map_take]
  · cases h

theorem run_u' {s : Sem Value} {w w' : World} {x : Value} (h : s.run P w = .ok x w') : (do let r ← s; Pure.pure (Next.value r) : Sem Next).run P w = .ok (.value x) w' := by
  simp [h, Result.andThen]

section
variable {o : Oper} {x y : Operand} {p q : Opd} (hF : FR ρ fr a) (hR : R B w0 ρ S w)
include hF hR

theorem sound_build {t : TypeId} {ps : Array (Nat × Operand)} {z : List AV} {qs : List (Nat × Nat × Opd)} {v : AV} {S' : St} {place : Nat → Option (Nat × Nat)} (ho : o.op = .build t ps) (hz : zeroT P t = some z) (hq : cParts place ps.toList = some qs)
    (hb : ∀ (zv : Value) c, (zeroValue t).run P w = .ok zv w → Instr.fill place zv.cells (ps.toList.map fun p => (p.1, a.eval p.2)) = some c → (Instr.build t (ps.map fun p => (p.1, a.eval p.2))).run P w = .ok (.agg c) w)
    (h : aop (.build z qs) fr.ev rid S = some (v, S')) : Good P B w0 ρ S rid a w o v S' := by
  obtain ⟨zv, hzr, hzl⟩ := zero_sound (P := P) (w := w) (ρ := ρ) hz
  simp only [aop, Option.map_eq_some_iff, Prod.mk.injEq] at h
  obtain ⟨cs, hcs, rfl, rfl⟩ := h
  obtain ⟨c, h1, h2⟩ := fill_sound hF hq hzl hcs
  have := V.agg h2
  rw [Array.toArray_toList] at this
  refine good_same hR this ?_
  simp only [execOp, ho]
  exact run_v (hb zv c hzr h1)

theorem sound_buildSl {t e : TypeId} {len n : Nat} {ps : Array (Nat × Operand)} {z : List AV} {qs : List (Nat × Nat × Opd)} {v : AV} {S' : St} (hf : Fresh ρ S rid) (ho : o.op = .buildSlice t len ps) (hu : P.underlying t = some (.slice e)) (hn : sizeT P e = some n) (hz : zeroT P e = some z)
    (hle : len * n ≤ 16777216) (hzn : 1 ≤ z.length) (hq : cParts (fun i => some (i * n, n)) ps.toList = some qs)
    (h : aop (.buildSl len (repZ z (len * n)) qs) fr.ev rid S = some (v, S')) : Good P B w0 ρ S rid a w o v S' := by
  obtain ⟨zv, hzr, hzl⟩ := zero_sound (P := P) (w := w) (ρ := ρ) hz
  simp only [aop] at h
  split at h
  case h_2 => cases h
  rename_i cs hcs
  simp only [Option.map_eq_some_iff, Prod.mk.injEq] at h
  obtain ⟨S2, hlay, rfl, rfl⟩ := h
  have hrep : ∀ (zc : Array Value), (len * n ≠ 0 → VL ρ z zc.toList) → VL ρ (repZ z (len * n)) ((Array.range (len * n)).map (zc[· % zc.size]!)).toList := by
    intro zc hzc
    have key : ∀ l : List Nat, (∀ i ∈ l, i < len * n) → VL ρ (l.map fun i => z.getD (i % z.length) (.tup [])) (l.map fun i => zc[i % zc.size]!) := by
      intro l
      induction l with
      | nil => intro _; exact .nil
      | cons i l ih =>
        intro hi
        have h0 : len * n ≠ 0 := by have := hi i List.mem_cons_self; omega
        have hl := (hzc h0).length
        have hlt : i % z.length < z.length := Nat.mod_lt _ (by omega)
        obtain ⟨x, hx, hv⟩ := (hzc h0).get (List.getElem?_eq_getElem hlt)
        refine .cons ?_ (ih fun j hj => hi j (List.mem_cons_of_mem _ hj))
        have e1 : z.getD (i % z.length) (.tup []) = z[i % z.length] := by simp [List.getD, List.getElem?_eq_getElem hlt]
        have e2 : zc[i % zc.size]! = x := by
          have hs : zc.size = z.length := by rw [hl]; simp
          rw [hs]
          have : zc[i % z.length]? = some x := by simpa using hx
          simp [getElem!_def, this]
        show V ρ (z.getD (i % z.length) (.tup [])) (zc[i % zc.size]!)
        rw [e1, e2]
        exact hv
    have := key (List.range (len * n)) (fun i hi => List.mem_range.1 hi)
    simpa [repZ] using this
  have hzz : ∃ zc : Array Value, (if len * n = 0 then Pure.pure #[] else do Pure.pure (← zeroValue e).cells : Sem (Array Value)).run P w = .ok zc w ∧ VL ρ (repZ z (len * n)) ((Array.range (len * n)).map (zc[· % zc.size]!)).toList := by
    by_cases h0 : len * n = 0
    · exact ⟨#[], by rw [if_pos h0]; rfl, hrep _ (fun h => absurd h0 h)⟩
    · exact ⟨zv.cells, by rw [if_neg h0]; simp [hzr], hrep _ (fun _ => hzl)⟩
  obtain ⟨zc, hzc, hzv⟩ := hzz
  obtain ⟨c, h1, h2⟩ := fill_sound hF hq hzv hcs
  have hst := step_lay hR hf hlay h2 e
  rw [Array.toArray_toList] at hst
  refine ⟨_, .slice (some ⟨w.heap.size, 0, none⟩) len len, _, hst, .sl (r := ⟨w.heap.size, 0, _⟩) (upd_self _ _ _) (Nat.le_refl _) rfl (.inr rfl), .inl ?_⟩
  simp only [execOp, ho]
  refine run_v ?_
  have hng : ¬ (len * n > 2 ^ 24) := by omega
  simp only [Instr.buildSlice, Sem.run_bind, run_underlying hu, Result.andThen, run_sizeT hn, hng, if_false]
  have hps : (ps.map fun x => (x.fst, a.eval x.snd)).toList = ps.toList.map fun p => (p.1, a.eval p.2) := by simp
  by_cases h0 : len * n = 0
  · rw [if_pos h0] at hzc
    simp only [Sem.run_pure, Result.ok.injEq, and_true] at hzc
    subst hzc
    have hr0 : Array.range (len * n) = #[] := by rw [h0]; rfl
    simp only [hr0, Array.map_empty] at h1
    rw [if_pos h0, hps]
    simp only [hr0, Array.map_empty, pure_bind, h1]
    simp [run_newRow]
  · rw [if_neg h0] at hzc
    simp only [Sem.run_bind, hzr, Result.andThen, Sem.run_pure, Result.ok.injEq, and_true] at hzc
    subst hzc
    rw [if_neg h0, hps]
    simp [hzr, h1, run_newRow]
theorem sound_mkslice {t e : TypeId} {i : TypeInfo} {z : List AV} {q : Opd} {y : Operand} {v : AV} {S' : St} (hf : Fresh ρ S rid) (ho : o.op = .makeSlice t x y) (hu : P.underlying t = some (.slice e)) (hi : P.info? e = some i) (hz : zeroT P e = some z)
    (hb1 : 1 ≤ i.bytes) (hzn : 1 ≤ z.length) (hx : cOpd x = some p) (hy : cOpd y = some q)
    (h : aop (.mkslice i.size i.bytes z p q) fr.ev rid S = some (v, S')) : Good P B w0 ρ S rid a w o v S' := by
  obtain ⟨zv, hzr, hzl⟩ := zero_sound (P := P) (w := w) (ρ := ρ) hz
  have h1 := hF.ev hx
  have h2 := hF.ev hy
  simp only [aop] at h
  split at h
  case h_2 => cases h
  rename_i k1 l k2 c e1 e2
  split at h
  case h_2 => cases h
  rename_i hd
  obtain ⟨rfl, rfl⟩ := Prod.mk.inj (Option.some.inj h)
  obtain ⟨d1, d2, d3⟩ := of_decide_eq_true hd
  rw [e1] at h1
  rw [e2] at h2
  generalize hvx : a.eval x = vx at h1
  generalize hvy : a.eval y = vy at h2
  cases h1
  cases h2
  obtain ⟨L, rfl⟩ : ∃ L : Nat, l = L := ⟨l.toNat, by omega⟩
  obtain ⟨C, rfl⟩ : ∃ C : Nat, c = C := ⟨c.toNat, by omega⟩
  have hCb : C * i.bytes ≤ 140737488355328 := by
    have d3' : ((C * i.bytes : Nat) : Int) ≤ ((mostCells : Nat) : Int) := by rw [Int.natCast_mul]; exact d3
    exact Int.ofNat_le.1 d3'
  have hC : C ≤ 140737488355328 := Nat.le_trans (Nat.le_mul_of_pos_right C hb1) hCb
  have hLC : L ≤ C := by omega
  have key : ∀ l : List Nat, (∀ j ∈ l, j < C * i.size) → VL ρ (l.map fun j => z.getD (j % z.length) (.tup [])) (l.map fun j => zv.cells[j % zv.cells.size]!) := by
    intro l
    induction l with
    | nil => intro _; exact .nil
    | cons j l ih =>
      intro hj
      have hl := hzl.length
      have hlt : j % z.length < z.length := Nat.mod_lt _ (by omega)
      obtain ⟨u, hx, hv⟩ := hzl.get (List.getElem?_eq_getElem hlt)
      refine .cons ?_ (ih fun j hj' => hj j (List.mem_cons_of_mem _ hj'))
      have e1 : z.getD (j % z.length) (.tup []) = z[j % z.length] := by simp [List.getD, List.getElem?_eq_getElem hlt]
      have e2 : zv.cells[j % zv.cells.size]! = u := by
        have hs : zv.cells.size = z.length := by rw [hl]; simp
        rw [hs]
        have : zv.cells[j % z.length]? = some u := by simpa using hx
        simp [getElem!_def, this]
      show V ρ (z.getD (j % z.length) (.tup [])) (zv.cells[j % zv.cells.size]!)
      rw [e1, e2]
      exact hv
  have hrow : VL ρ (repZ z (C * i.size)) (List.map (fun j => zv.cells[j % zv.cells.size]!) (List.range (C * i.size))) := key _ (fun j hj => List.mem_range.1 hj)
  have hst := step_row hR hf hrow e
  have hw1 : IntKind.i64.wrap (L : Int) = L := IntWalk.i64_in _ (by omega)
  have hw2 : IntKind.i64.wrap (C : Int) = C := IntWalk.i64_in _ (by omega)
  have t1 : ¬ ((i.bytes : Int) * (C : Int) > 2 ^ 48) := by
    have : ((i.bytes * C : Nat) : Int) ≤ ((140737488355328 : Nat) : Int) := Int.ofNat_le.2 (by rw [Nat.mul_comm]; exact hCb)
    rw [Int.natCast_mul] at this
    omega
  refine ⟨_, .slice (some ⟨w.heap.size, 0, none⟩) L C, _, hst, .sl (r := ⟨w.heap.size, 0, _⟩) (upd_self _ _ _) (by simpa using hLC) (by simp [Cap.fits]) (.inr rfl), .inl ?_⟩
  simp only [execOp, ho, hvx, hvy]
  refine run_v ?_
  have hszT : sizeT P e = some i.size := by simp [sizeT, hi]
  have hinf : (typeInfo e).run P w = .ok i w := by simp [typeInfo, hi]
  have ha1 : (asInt (.int k1 (L : Int))).run P w = .ok (L : Int) w := by simp [asInt, asIntOf, Result.andThen]
  have ha2 : (asInt (.int k2 (C : Int))).run P w = .ok (C : Int) w := by simp [asInt, asIntOf, Result.andThen]
  have n1 : ¬ ((C : Int) < 0) := by omega
  have n2 : ¬ ((L : Int) < 0) := by omega
  have n3 : ¬ ((L : Int) > C) := by omega
  simp only [Instr.makeSlice, Sem.run_bind, run_underlying hu, Result.andThen, ha1, ha2, Sem.run_pure, hinf, hw1, hw2, n1, n2, n3, t1, decide_false, Bool.or_false, Bool.or_self, Bool.false_eq_true, or_self, if_false, run_askRoom, run_sizeT hszT, Int.toNat_natCast]
  by_cases h0 : C * i.size = 0
  · rw [if_pos h0]
    have : (Array.map (fun x => (#[] : Array Value)[x % (#[] : Array Value).size]!) (Array.range (C * i.size))) = (List.map (fun j => zv.cells[j % zv.cells.size]!) (List.range (C * i.size))).toArray := by
      rw [h0]; simp
    simp only [pure_bind, this]
    simp [run_newRow]
  · rw [if_neg h0]
    simp only [Sem.run_bind, hzr, Result.andThen, Sem.run_pure]
    have : (Array.map (fun x => zv.cells[x % zv.cells.size]!) (Array.range (C * i.size))) = (List.map (fun j => zv.cells[j % zv.cells.size]!) (List.range (C * i.size))).toArray := by
      apply Array.ext'; simp
    rw [this]
    simp [run_newRow]
end
end Go.Eng
