/-
  Every compiled operation that is no call is carried out as the abstract one says.
-/
import Derived.Test.YtiemcnndfhbidaaGreatDoorE14
import Derived.Laws.BytesArg
import Derived.Laws.IdiomStrings
set_option linter.unusedSimpArgs false
set_option linter.unusedVariables false
namespace Go.Eng
open Go.RowKit (Below)
variable {P : Program} {B : Nat} {w0 w : World} {ρ : Pl} {S : St} {fr : AFr} {a : Act} {rid : Nat}

theorem cOpds_cons {l : List Operand} {p : Opd} {ps : List Opd} (h : cOpds l = some (p :: ps)) : ∃ x xs, l = x :: xs ∧ cOpd x = some p ∧ cOpds xs = some ps := by
  cases l with
  | nil => simp [cOpds] at h
  | cons x xs =>
    simp only [cOpds] at h
    split at h
    · rename_i y hy
      simp only [Option.map_eq_some_iff, List.cons.injEq] at h
      obtain ⟨l, hl, rfl, rfl⟩ := h
      exact ⟨x, xs, rfl, hy, hl⟩
    · cases h
theorem cOpds_nil {l : List Operand} (h : cOpds l = some []) : l = [] := by
  cases l with
  | nil => rfl
  | cons x xs =>
    simp only [cOpds] at h
    split at h
    · simp only [Option.map_eq_some_iff] at h
      obtain ⟨l, hl, e⟩ := h
      cases e
    · cases h
theorem cOpds_one {l : List Operand} {p : Opd} (h : cOpds l = some [p]) : ∃ x, l = [x] ∧ cOpd x = some p := by
  obtain ⟨x, xs, rfl, h1, h2⟩ := cOpds_cons h
  obtain rfl := cOpds_nil h2
  exact ⟨x, rfl, h1⟩
theorem cOpds_two {l : List Operand} {p q : Opd} (h : cOpds l = some [p, q]) : ∃ x y, l = [x, y] ∧ cOpd x = some p ∧ cOpd y = some q := by
  obtain ⟨x, xs, rfl, h1, h2⟩ := cOpds_cons h
  obtain ⟨y, rfl, h3⟩ := cOpds_one h2
  exact ⟨x, y, rfl, h1, h3⟩
theorem ty0 {ts : Array TypeId} {t : TypeId} {r : List TypeId} (h : ts.toList = t :: r) : ts[0]? = some t := by rw [← Array.getElem?_toList, h]; rfl

theorem aop_fst {ci : CI} {ev : Opd → AV} {v : AV} {S' : St} (h : aop ci ev rid S = some (v, S')) (hn : ∀ ev rid S v S', aop ci ev rid S = some (v, S') → S' = S) : aop ci ev rid S = some (v, S) := by
  have := hn _ _ _ _ _ h
  rw [← this] at h ⊢
  rw [this] at h
  rw [this]
  exact h

theorem build_struct {t : TypeId} {fields : Array Field} {z : List AV} (hu : P.underlying t = some (.struct fields)) (hz : zeroT P t = some z) (hall : fields.toList.all (fun f => (sizeT P f.type).isSome) = true) (ps : Array (Nat × Operand)) (zv : Value) (c : Array Value)
    (hzr : (zeroValue t).run P w = .ok zv w) (h : Instr.fill (placeS P fields) zv.cells (ps.toList.map fun p => (p.1, a.eval p.2)) = some c) : (Instr.build t (ps.map fun p => (p.1, a.eval p.2))).run P w = .ok (.agg c) w := by
  apply run_build
  unfold zeroT at hz
  split at hz
  · rename_i i hi
    split at hz
    · rename_i z0 hz0
      have : zv = z0 := by
        simp [zeroValue, typeInfo, hi, hz0] at hzr
        exact hzr.symm
      subst this
      have hpl : fields.toList.mapM (fun f => (P.info? f.type).map fun i => (f.offset, i.size)) = some (fields.toList.map fun f => (f.offset, ((P.info? f.type).map (·.size)).getD 0)) := by
        have : ∀ l : List Field, l.all (fun f => (sizeT P f.type).isSome) = true → l.mapM (fun f => (P.info? f.type).map fun i => (f.offset, i.size)) = some (l.map fun f => (f.offset, ((P.info? f.type).map (·.size)).getD 0)) := by
          intro l
          induction l with
          | nil => intro _; rfl
          | cons f l ih =>
            intro hl
            simp only [List.all_cons, Bool.and_eq_true] at hl
            obtain ⟨h1, h2⟩ := hl
            have ih := ih h2
            unfold sizeT at h1
            cases hi : P.info? f.type with
            | none => simp [hi] at h1
            | some i => simp [List.mapM_cons, hi, ih]
        exact this _ hall
      have hfill : (fun x => (fields.toList.map fun f => (f.offset, ((P.info? f.type).map (·.size)).getD 0)).toArray[x]?) = placeS P fields := by
        funext x
        unfold placeS
        simp only [List.getElem?_toArray, List.getElem?_map, Array.getElem?_toList]
        cases hx : fields[x]? with
        | none => rfl
        | some f =>
          have hm : f ∈ fields.toList := Array.mem_toList_iff.2 (Array.mem_of_getElem? hx)
          have := List.all_eq_true.1 hall f hm
          unfold sizeT at this ⊢
          cases hi : P.info? f.type with
          | none => simp [hi] at this
          | some i => simp [hi]
      simp only [Program.built, hi, hu, hz0, hpl, hfill]
      rw [← h]
      congr 1
      simp
    · cases hz
  · cases hz
theorem build_array {t e : TypeId} {len n : Nat} {z : List AV} (hu : P.underlying t = some (.array len e)) (hz : zeroT P t = some z) (hn : sizeT P e = some n) (ps : Array (Nat × Operand)) (zv : Value) (c : Array Value)
    (hzr : (zeroValue t).run P w = .ok zv w) (h : Instr.fill (fun i => some (i * n, n)) zv.cells (ps.toList.map fun p => (p.1, a.eval p.2)) = some c) : (Instr.build t (ps.map fun p => (p.1, a.eval p.2))).run P w = .ok (.agg c) w := by
  apply run_build
  unfold zeroT at hz
  split at hz
  · rename_i i hi
    split at hz
    · rename_i z0 hz0
      have : zv = z0 := by
        simp [zeroValue, typeInfo, hi, hz0] at hzr
        exact hzr.symm
      subst this
      unfold sizeT at hn
      cases hie : P.info? e with
      | none => simp [hie] at hn
      | some ie =>
        simp [hie] at hn
        simp only [Program.built, hi, hu, hz0, hie, hn]
        rw [← h]
        congr 1
        simp
    · cases hz
  · cases hz

theorem part_sound {t : TypeId} {g : Bool} {n off : Nat} {cs : List AV} {xs : List Value} {v : AV} (hg : aggT P t = some g) (hn : sizeT P t = some n) (hxs : VL ρ cs xs)
    (h : partOf g n off cs = some v) : ∃ x, V ρ v x ∧ (part t xs.toArray off).run P w = .ok x w := by
  cases g with
  | true =>
    obtain rfl := Option.some.inj h
    exact ⟨_, .agg ((hxs.drop off).take n), by simp [part, run_aggT hg, run_sizeT hn, List.take_drop]⟩
  | false =>
    obtain ⟨z, hz, hvz⟩ := hxs.get h
    exact ⟨z, hvz, by simp [part, run_aggT hg, hz]⟩
theorem sound_idxv {o : Oper} {t e : TypeId} {len n : Nat} {g : Bool} {x i : Operand} {p q : Opd} {v : AV} {S' : St} (hF : FR ρ fr a) (hR : R B w0 ρ S w) (ho : o.op = .index t x i) (hu : P.underlying t = some (.array len e)) (hg : aggT P e = some g) (hn : sizeT P e = some n)
    (hp : cOpd x = some p) (hq : cOpd i = some q) (h : aop (.idxv g len n p q) fr.ev rid S = some (v, S')) : Good P B w0 ρ S rid a w o v S' := by
  have hv := hF.ev hp
  have hi := hF.ev hq
  simp only [aop] at h
  split at h
  · rename_i cs k j e1 e2
    split at h
    · rename_i hd
      have hd := of_decide_eq_true hd
      rw [e1] at hv
      rw [e2] at hi
      generalize hvx : a.eval x = vx at hv
      generalize hvi : a.eval i = vi at hi
      cases hi
      cases hv
      rename_i xs hxs
      split at h
      case h_2 => cases h
      rename_i u hs
      obtain ⟨rfl, rfl⟩ := Prod.mk.inj (Option.some.inj h)
      obtain ⟨z, hz, hr⟩ := part_sound (P := P) (w := w) (off := j.toNat * n) hg hn hxs hs
      refine good_same hR hz ?_
      simp only [execOp, ho, hvx, hvi]
      refine run_v ?_
      simp [Instr.index, asIntOf, run_underlying hu, hd, run_sizeT hn, hr]
    · cases h
  · cases h
theorem sound_idxs {o : Oper} {t : TypeId} {x i : Operand} {p q : Opd} {v : AV} {S' : St} (hF : FR ρ fr a) (hR : R B w0 ρ S w) (ho : o.op = .index t x i) (hu : P.underlying t = some .string)
    (hp : cOpd x = some p) (hq : cOpd i = some q) (h : aop (.idxs p q) fr.ev rid S = some (v, S')) : Good P B w0 ρ S rid a w o v S' := by
  have hv := hF.ev hp
  have hi := hF.ev hq
  simp only [aop] at h
  split at h
  · rename_i l k j e1 e2
    split at h
    · rename_i hd
      have hd := of_decide_eq_true hd
      split at h
      · rename_i b hb
        obtain ⟨rfl, rfl⟩ := Prod.mk.inj (Option.some.inj h)
        rw [e1] at hv
        rw [e2] at hi
        generalize hvx : a.eval x = vx at hv
        generalize hvi : a.eval i = vi at hi
        cases hi
        cases hv
        rename_i s hs
        subst hs
        have : ∃ c, s[j.toNat]? = some c ∧ c.toNat = b := by
          simp only [bs, List.getElem?_map, Option.map_eq_some_iff] at hb
          obtain ⟨c, hc, e⟩ := hb
          refine ⟨c, ?_, e⟩
          have hlt := (List.getElem?_eq_some_iff.1 hc).1
          have hc' := (List.getElem?_eq_some_iff.1 hc).2
          have hsz : j.toNat < s.size := by have e := hlt; rw [Array.length_toList] at e; exact e
          rw [getElem?_pos s j.toNat hsz]
          congr 1
        obtain ⟨c, hc, rfl⟩ := this
        refine good_same hR .int ?_
        simp only [execOp, ho, hvx, hvi]
        refine run_v ?_
        simp [Instr.index, asIntOf, run_underlying hu, hd, hc]
      · cases h
    · cases h
  · cases h
theorem sound_strid {o : Oper} {s d : TypeId} {x : Operand} {p : Opd} {v : AV} {S' : St} (hF : FR ρ fr a) (hR : R B w0 ρ S w) (ho : o.op = .convert s d x) (hs : P.underlying s = some .string) (hd : P.underlying d = some .string)
    (hp : cOpd x = some p) (h : aop (.strid p) fr.ev rid S = some (v, S')) : Good P B w0 ρ S rid a w o v S' := by
  have hv := hF.ev hp
  simp only [aop] at h
  split at h
  · rename_i l e
    obtain ⟨rfl, rfl⟩ := Prod.mk.inj (Option.some.inj h)
    rw [e] at hv
    generalize hvx : a.eval x = vx at hv
    cases hv
    rename_i s' hs'
    refine good_same hR (.str hs') ?_
    simp only [execOp, ho, hvx]
    refine run_v ?_
    simp [convert, run_underlying hs, run_underlying hd]
  · cases h
theorem bytes_list : ∀ {l : List AV} {xs : List Value} {r : List Nat}, VL ρ l xs → bytesOf l = some r → xs = (r.map Int.ofNat).map (Value.int .u8) ∧ ∀ n ∈ r, n < 256
  | [], xs, r, hv, h => by
    cases hv
    simp only [bytesOf, Option.some.injEq] at h
    subst h
    exact ⟨rfl, by simp⟩
  | c :: l, xs, r, hv, h => by
    unfold bytesOf at h
    split at h
    · rename_i e
      cases e
    · rename_i n rr e
      obtain ⟨rfl, rfl⟩ := List.cons.inj e
      split at h
      · rename_i hn
        simp only [Option.map_eq_some_iff] at h
        obtain ⟨r', hr', rfl⟩ := h
        cases hv
        rename_i u us hu hus
        cases hu
        obtain ⟨rfl, h2⟩ := bytes_list hus hr'
        refine ⟨rfl, fun m hm => ?_⟩
        rcases List.mem_cons.1 hm with rfl | hm
        · simpa [Nat.blt, Nat.succ_le_iff] using hn
        · exact h2 m hm
      · cases h
    · cases h
theorem u8_back {n : Nat} (h : n < 256) : (UInt8.ofNat n).toNat = n := by
  rw [UInt8.toNat_ofNat']
  exact Nat.mod_eq_of_lt h
theorem bs_nums {r : List Nat} (h : ∀ n ∈ r, n < 256) : bs (strOfNums (r.map Int.ofNat)) = r := by
  unfold bs
  rw [strOfNums_data, List.map_map, List.map_map]
  conv => rhs; rw [← List.map_id r]
  apply List.map_congr_left
  intro n hn
  have := h n hn
  exact u8_back this
theorem sound_b2s {o : Oper} {s d e : TypeId} {x : Operand} {p : Opd} {v : AV} {S' : St} (hF : FR ρ fr a) (hR : R B w0 ρ S w) (ho : o.op = .convert s d x) (hs : P.underlying s = some (.slice e)) (hd : P.underlying d = some .string) (he : P.underlying e = some (.int .u8))
    (hp : cOpd x = some p) (h : aop (.b2s p) fr.ev rid S = some (v, S')) : Good P B w0 ρ S rid a w o v S' := by
  have hv := hF.ev hp
  simp only [aop] at h
  split at h
  · rename_i ep
    obtain ⟨rfl, rfl⟩ := Prod.mk.inj (Option.some.inj h)
    rw [ep] at hv
    generalize hvx : a.eval x = vx at hv
    cases hv
    refine good_same hR (.str (s := ByteArray.empty) rfl) ?_
    simp only [execOp, ho, hvx]
    exact run_v (run_convert_bytes_nil w s e hs he _ _ d hd)
  · rename_i id off len cap ep
    split at h
    · rename_i l hl
      split at h
      · rename_i r hr
        obtain ⟨rfl, rfl⟩ := Prod.mk.inj (Option.some.inj h)
        rw [ep] at hv
        generalize hvx : a.eval x = vx at hv
        cases hv
        rename_i c q ad hq hlen had hfit
        obtain ⟨xs, h1, h2, h3⟩ := row_values hR hq hl
        obtain ⟨rfl, h5⟩ := bytes_list h1 hr
        refine good_same hR (.str (bs_nums h5)) ?_
        simp only [execOp, ho, hvx]
        refine run_v ?_
        have hrl : (r.map Int.ofNat).length = len := by simpa using h2
        by_cases hz : len = 0 ∧ c = 0
        · have : r = [] := List.eq_nil_of_length_eq_zero (by rw [← List.length_map (f := Int.ofNat)]; omega)
          subst this
          rw [run_convert_bytes_string w s d e _ len c hs he hd, hz.1, run_bytesToString w _ 0 c [] (by simp [loadCells, loadCellsFrom])]
          rfl
        · obtain rfl := had.resolve_left hz
          refine run_convert_bytes_arg w s e hs he _ _ len c (r.map Int.ofNat) hrl (fun i hi => ?_) d hd
          apply h3 i
          rw [← hrl] at hi
          simp [List.getElem?_map, List.getD, List.getElem?_eq_getElem hi] at hi ⊢
          simp [hi]
      · cases h
    · cases h
  · cases h

theorem bytes_VL : ∀ (l : List UInt8), VL ρ ((l.map UInt8.toNat).map fun b => AV.int .u8 (Int.ofNat b)) (l.map fun b => Value.int .u8 b.toNat)
  | [] => .nil
  | b :: l => .cons .int (bytes_VL l)
theorem sound_s2b {o : Oper} {s d e : TypeId} {x : Operand} {p : Opd} {v : AV} {S' : St} (hF : FR ρ fr a) (hR : R B w0 ρ S w) (hf : Fresh ρ S rid) (ho : o.op = .convert s d x) (hs : P.underlying s = some .string) (hd : P.underlying d = some (.slice e)) (he : P.underlying e = some (.int .u8))
    (hp : cOpd x = some p) (h : aop (.s2b p) fr.ev rid S = some (v, S')) : Good P B w0 ρ S rid a w o v S' := by
  have hv := hF.ev hp
  simp only [aop] at h
  split at h
  · rename_i l ep
    obtain ⟨rfl, rfl⟩ := Prod.mk.inj (Option.some.inj h)
    rw [ep] at hv
    generalize hvx : a.eval x = vx at hv
    cases hv
    rename_i str hstr
    subst hstr
    have hrun := run_bytes_of_string (P := P) w s d e str hs hd he
    have hge := grownCap_ge w str.size 0 e
    have hlen : (bs str).length = str.size := bs_length str
    have hst := step_new (o := .cells (bytesRow str (grownCap w str.size 0 e)) e ((bytesRow str (grownCap w str.size 0 e)).size, (bytesRow str (grownCap w str.size 0 e)).size + 1)) hR.drew hf
      (k := .cells (((bs str).map fun b => AV.int .u8 (Int.ofNat b)).map some) rid 0 true true true) (tot := (bytesRow str (grownCap w str.size 0 e)).size) ⟨rfl, rfl, rfl⟩
      ⟨_, e, _, _, by rw [alloc_get, if_pos rfl], rfl, by simp [bytesRow, bs], fun i _ hi => by omega, fun i u hi => by
        rw [List.getElem?_map, Option.map_eq_some_iff] at hi
        obtain ⟨u', hu', e'⟩ := hi
        obtain rfl := Option.some.inj e'
        obtain ⟨y, hy, hvy⟩ := (bytes_VL (ρ := ρ) str.data.toList).get hu'
        refine ⟨y, ?_, hvy.mono (sub_upd _ hf.un)⟩
        have hlt : i < str.data.toList.length := by
          have := (List.getElem?_eq_some_iff.1 hy).1
          simpa using this
        show (bytesRow str _)[0 + i]? = some y
        rw [Nat.zero_add]
        unfold bytesRow
        rw [Array.getElem?_append_left (by simpa using hlt)]
        rw [← hy]
        simp⟩
    refine ⟨_, _, _, hst, .sl (r := ⟨w.heap.size, 0, (bytesRow str (grownCap w str.size 0 e)).size⟩) (upd_self _ _ _) (by rw [hlen]; exact hge) ?_ (.inr rfl), .inl ?_⟩
    · show 0 + 0 + grownCap w str.size 0 e * 1 ≤ (bytesRow str (grownCap w str.size 0 e)).size
      simp [bytesRow]
      have : str.data.size = str.size := rfl
      omega
    · simp only [execOp, ho, hvx]
      rw [hlen]
      exact run_v hrun
  · cases h
theorem aop_sound {o : Oper} {ci : CI} {v : AV} {S' : St} (hF : FR ρ fr a) (hR : R B w0 ρ S w) (hf : Fresh ρ S rid) (hc : comp P o.op = some ci) (h : aop ci fr.ev rid S = some (v, S')) : Good P B w0 ρ S rid a w o v S' := by
  generalize hop : o.op = op at hc
  cases op
  case move x =>
    simp only [comp, Option.map_eq_some_iff] at hc
    obtain ⟨p, hp, rfl⟩ := hc
    obtain ⟨rfl, rfl⟩ := Prod.mk.inj (Option.some.inj h)
    exact sound_mov hF hR (.inl hop) hp
  case assign x =>
    simp only [comp, Option.map_eq_some_iff] at hc
    obtain ⟨p, hp, rfl⟩ := hc
    obtain ⟨rfl, rfl⟩ := Prod.mk.inj (Option.some.inj h)
    exact sound_mov hF hR (.inr hop) hp
  case pick c x y =>
    simp only [comp] at hc
    split at hc
    · rename_i r p q hr hp hq
      obtain rfl := Option.some.inj hc
      have : S' = S := by
        simp only [aop] at h
        split at h <;> first | (cases h; done) | exact (Prod.mk.inj (Option.some.inj h)).2.symm
      subst this
      exact sound_pick hF hR hop hr hp hq h
    · cases hc
  case alloc t =>
    simp only [comp, Option.map_eq_some_iff] at hc
    obtain ⟨z, hz, rfl⟩ := hc
    exact sound_alloc hF hR hf hop hz h
  case box t x =>
    simp only [comp, Option.map_eq_some_iff] at hc
    obtain ⟨p, hp, rfl⟩ := hc
    exact sound_box hF hR hf hop hp h
  case build t ps =>
    simp only [comp] at hc
    split at hc
    · rename_i fields hu
      split at hc
      · rename_i z l hz hall hl
        obtain rfl := Option.some.inj hc
        exact sound_build hF hR hop hz hl (fun zv c h1 h2 => build_struct hu hz hall ps zv c h1 h2) h
      · cases hc
    · rename_i len e hu
      split at hc
      · rename_i z n hz hn
        simp only [Option.map_eq_some_iff] at hc
        obtain ⟨l, hl, rfl⟩ := hc
        exact sound_build hF hR hop hz hl (fun zv c h1 h2 => build_array hu hz hn ps zv c h1 h2) h
      · cases hc
    · cases hc
  case buildSlice t len ps =>
    simp only [comp] at hc
    split at hc
    · rename_i e hu
      split at hc
      · rename_i n z hn hz
        split at hc
        · rename_i hle
          simp only [Bool.and_eq_true] at hle
          simp only [Option.map_eq_some_iff] at hc
          obtain ⟨l, hl, rfl⟩ := hc
          exact sound_buildSl hF hR hf hop hu hn hz (Nat.le_of_ble_eq_true hle.1) (Nat.le_of_ble_eq_true hle.2) hl h
        · cases hc
      · cases hc
    · cases hc
  case load t x =>
    simp only [comp] at hc
    split at hc
    · rename_i g n p hg hn hp
      obtain rfl := Option.some.inj hc
      exact sound_load hF hR hop hg hn hp h
    · cases hc
  case store t x y =>
    simp only [comp] at hc
    split at hc
    · rename_i n p q hn hp hq
      obtain rfl := Option.some.inj hc
      exact sound_store hF hR hop hn hp hq h
    · cases hc
  case nilCheck x =>
    simp only [comp, Option.map_eq_some_iff] at hc
    obtain ⟨p, hp, rfl⟩ := hc
    exact sound_nilck hF hR hop hp h
  case fieldAddr t x f =>
    simp only [comp] at hc
    split at hc
    · rename_i fields hu
      split at hc
      · rename_i fd hfd
        split at hc
        · rename_i n y hn hy
          obtain rfl := Option.some.inj hc
          exact sound_addoff hF hR hop hu hfd hn hy h
        · cases hc
      · cases hc
    · cases hc
  case indexAddr t x i =>
    simp only [comp] at hc
    split at hc
    · rename_i e p q hu hp hq
      simp only [Option.map_eq_some_iff] at hc
      obtain ⟨n, hn, rfl⟩ := hc
      exact sound_idx hF hR hop hu hn hp hq h
    · rename_i len e p q hu hp hq
      simp only [Option.map_eq_some_iff] at hc
      obtain ⟨n, hn, rfl⟩ := hc
      exact sound_idxarr hF hR hop hu hn hp hq h
    · cases hc
  case field t x f =>
    simp only [comp] at hc
    split at hc
    · rename_i fields hu
      split at hc
      · rename_i fd hfd
        split at hc
        · rename_i g n y hg hn hy
          obtain rfl := Option.some.inj hc
          exact sound_fld hF hR hop hu hfd hg hn hy h
        · cases hc
      · cases hc
    · cases hc
  case index t x i =>
    simp only [comp] at hc
    split at hc
    · rename_i len e p q hu hp hq
      split at hc
      · rename_i g n hg hn
        obtain rfl := Option.some.inj hc
        exact sound_idxv hF hR hop hu hg hn hp hq h
      · cases hc
    · rename_i p q hu hp hq
      obtain rfl := Option.some.inj hc
      exact sound_idxs hF hR hop hu hp hq h
    · cases hc
  case binOp op t x y u =>
    simp only [comp] at hc
    split at hc
    · rename_i p q hp hq
      split at hc
      · obtain rfl := Option.some.inj hc
        exact sound_bin hF hR hop hp hq h
      · obtain rfl := Option.some.inj hc
        exact sound_bin hF hR hop hp hq h
      · rename_i e hu
        split at hc
        · rename_i n hn
          split at hc
          · obtain rfl := Option.some.inj hc
            exact sound_eqq (k := .ptr) (neg := false) hF hR hop rfl ⟨e, n, hu, hn⟩ hp hq h
          · obtain rfl := Option.some.inj hc
            exact sound_eqq (k := .ptr) (neg := true) hF hR hop rfl ⟨e, n, hu, hn⟩ hp hq h
          · cases hc
        · cases hc
      · rename_i hu
        split at hc
        · obtain rfl := Option.some.inj hc
          exact sound_eqq (k := .bool) (neg := false) hF hR hop rfl hu hp hq h
        · obtain rfl := Option.some.inj hc
          exact sound_eqq (k := .bool) (neg := true) hF hR hop rfl hu hp hq h
        · cases hc
      · rename_i e hu
        split at hc
        · obtain rfl := Option.some.inj hc
          exact sound_eqq (k := .slice) (neg := false) hF hR hop rfl ⟨e, hu⟩ hp hq h
        · obtain rfl := Option.some.inj hc
          exact sound_eqq (k := .slice) (neg := true) hF hR hop rfl ⟨e, hu⟩ hp hq h
        · cases hc
      · rename_i k e hu
        split at hc
        · obtain rfl := Option.some.inj hc
          exact sound_eqq (k := .map) (neg := false) hF hR hop rfl ⟨k, e, hu⟩ hp hq h
        · obtain rfl := Option.some.inj hc
          exact sound_eqq (k := .map) (neg := true) hF hR hop rfl ⟨k, e, hu⟩ hp hq h
        · cases hc
      · rename_i k e z hu
        split at hc
        · obtain rfl := Option.some.inj hc
          exact sound_eqq (k := .func) (neg := false) hF hR hop rfl ⟨k, e, z, hu⟩ hp hq h
        · obtain rfl := Option.some.inj hc
          exact sound_eqq (k := .func) (neg := true) hF hR hop rfl ⟨k, e, z, hu⟩ hp hq h
        · cases hc
      · rename_i fields hu
        split at hc
        · rename_i ks hk hg
          split at hc
          · obtain rfl := Option.some.inj hc
            exact sound_eqs (neg := false) hF hR hop rfl (by simp [aggT, hu]) hk hg hp hq h
          · obtain rfl := Option.some.inj hc
            exact sound_eqs (neg := true) hF hR hop rfl (by simp [aggT, hu]) hk hg hp hq h
          · cases hc
        · cases hc
      · rename_i n e hu
        split at hc
        · rename_i ks hk hg
          split at hc
          · obtain rfl := Option.some.inj hc
            exact sound_eqs (neg := false) hF hR hop rfl (by simp [aggT, hu]) hk hg hp hq h
          · obtain rfl := Option.some.inj hc
            exact sound_eqs (neg := true) hF hR hop rfl (by simp [aggT, hu]) hk hg hp hq h
          · cases hc
        · cases hc
      · cases hc
    · cases hc
  case unOp op t x =>
    simp only [comp, Option.map_eq_some_iff] at hc
    obtain ⟨p, hp, rfl⟩ := hc
    exact sound_un hF hR hop hp h
  case convert s d x =>
    simp only [comp] at hc
    split at hc
    · rename_i ds k p hs hd hp
      obtain rfl := Option.some.inj hc
      exact sound_conv hF hR hop hs hd hp h
    · rename_i e p hs hd hp
      split at hc
      · rename_i he
        obtain rfl := Option.some.inj hc
        exact sound_b2s hF hR hop hs hd he hp h
      · cases hc
    · rename_i p hs hd hp
      obtain rfl := Option.some.inj hc
      exact sound_strid hF hR hop hs hd hp h
    · rename_i e p hs hd hp
      split at hc
      · rename_i he
        obtain rfl := Option.some.inj hc
        exact sound_s2b hF hR hf hop hs hd he hp h
      · cases hc
    · cases hc
  case makeFunc fn first caps =>
    simp only [comp] at hc
    split at hc
    · rename_i l r hl hr
      obtain rfl := Option.some.inj hc
      exact sound_mkfn hF hR hop hl hr h
    · cases hc
  case makeMap t r =>
    cases r with
    | none =>
      simp only [comp, Option.some.injEq] at hc
      subst hc
      exact sound_mkmap hF hR hf hop h
    | some r => cases hc
  case makeSlice t l c =>
    simp only [comp] at hc
    split at hc
    · rename_i e p q hu hp hq
      split at hc
      · rename_i i z hi hz
        split at hc
        · rename_i hb
          obtain rfl := Option.some.inj hc
          simp only [Bool.and_eq_true] at hb
          exact sound_mkslice hF hR hf hop hu hi hz (Nat.le_of_ble_eq_true hb.1) (Nat.le_of_ble_eq_true hb.2) hp hq h
        · cases hc
      · cases hc
    · cases hc
  case slice t x lo hi mx =>
    simp only [comp] at hc
    split at hc
    · rename_i e y l h' m hu hy hl hh hm
      simp only [Option.map_eq_some_iff] at hc
      obtain ⟨n, hn, rfl⟩ := hc
      exact sound_slice hF hR hop hu hn hy hl hh hm h
    · rename_i y l h' hu hy hl hh hm
      obtain rfl := Option.some.inj hc
      have : mx = none := by
        cases mx with
        | none => rfl
        | some m => simp [cOpdO] at hm
      subst this
      exact sound_slstr hF hR hop hu hy hl hh h
    · rename_i r y l h' m hu hy hl hh hm
      split at hc
      · rename_i N e hur
        simp only [Option.map_eq_some_iff] at hc
        obtain ⟨n, hn, rfl⟩ := hc
        exact sound_slarr hF hR hop hu hur hn hy hl hh hm h
      · cases hc
    · cases hc
  case lookup t m k ok =>
    simp only [comp] at hc
    split at hc
    · rename_i kt et hu
      split at hc
      · rename_i kk z p q hk hz hp hq
        obtain rfl := Option.some.inj hc
        exact sound_lookup hF hR hop hu hk hz hp hq h
      · cases hc
    · cases hc
  case mapUpdate t m k u =>
    simp only [comp] at hc
    split at hc
    · rename_i kt et hu
      split at hc
      · rename_i kk p q r hk hp hq hr
        obtain rfl := Option.some.inj hc
        exact sound_mapset hF hR (.inl hop) hu hk hp hq hr h
      · cases hc
    · cases hc
  case insert t m k u =>
    simp only [comp] at hc
    split at hc
    · rename_i kt et hu
      split at hc
      · rename_i kk p q r hk hp hq hr
        obtain rfl := Option.some.inj hc
        exact sound_mapset hF hR (.inr hop) hu hk hp hq hr h
      · cases hc
    · cases hc
  case range t x =>
    simp only [comp] at hc
    split at hc
    · rename_i kt et p hu hp
      obtain rfl := Option.some.inj hc
      exact sound_range hF hR hf hop hu hp h
    · cases hc
  case next it b =>
    cases b with
    | true => cases hc
    | false =>
      simp only [comp, Option.map_eq_some_iff] at hc
      obtain ⟨p, hp, rfl⟩ := hc
      exact sound_next hF hR hop hp h
  case entry it =>
    simp only [comp, Option.map_eq_some_iff] at hc
    obtain ⟨p, hp, rfl⟩ := hc
    exact sound_entry hF hR hop hp h
  case extract x i =>
    simp only [comp, Option.map_eq_some_iff] at hc
    obtain ⟨p, hp, rfl⟩ := hc
    exact sound_ext hF hR hop hp h
  case makeInterface t x =>
    simp only [comp] at hc
    split at hc
    · cases hc
    · rename_i d p hd hu hp
      obtain rfl := Option.some.inj hc
      exact sound_ifc hF hR hop hu (fun ms e => hd ms e) hp h
    · cases hc
  case call c =>
    simp only [comp] at hc
    split at hc
    · split at hc
      · obtain rfl := Option.some.inj hc
        cases h
      · cases hc
    · rename_i b hcal
      split at hc
      · rename_i st xt ts s x hty hargs
        obtain ⟨x1, x2, hl, h1, h2⟩ := cOpds_two hargs
        have t0 : c.argTypes[0]? = some st := by rw [← Array.getElem?_toList, hty]; rfl
        have t1 : c.argTypes[1]? = some xt := by rw [← Array.getElem?_toList, hty]; rfl
        split at hc
        · rename_i e hu
          split at hc
          · cases hc
          · cases hc
          · rename_i hno hni
            split at hc
            · rename_i i hi
              split at hc
              · rename_i z hz
                split at hc
                · rename_i hb1 hb2
                  obtain rfl := Option.some.inj hc
                  exact sound_append hF hR hf hop hcal hl t0 t1 hu (fun d hd k e => hno k (by rw [hd, e])) (by
                    cases hx : P.underlying xt with
                    | none => exact absurd hx hni
                    | some d => rfl) hi hz (Nat.eq_of_beq_eq_true hb2) (Nat.le_of_ble_eq_true hb1) h1 h2 h
                · cases hc
              · cases hc
            · cases hc
        · cases hc
      · rename_i t ts x hty hargs
        obtain ⟨x1, hl, h1⟩ := cOpds_one hargs
        have t0 := ty0 hty
        split at hc
        · rename_i hu
          obtain rfl := Option.some.inj hc
          exact sound_len hF hR hop hcal hl t0 hu (.inl ⟨rfl, rfl⟩) h1 h
        · rename_i e hu
          obtain rfl := Option.some.inj hc
          exact sound_len hF hR hop hcal hl t0 hu (.inr (.inl ⟨⟨e, rfl⟩, rfl⟩)) h1 h
        · rename_i k e hu
          obtain rfl := Option.some.inj hc
          exact sound_len hF hR hop hcal hl t0 hu (.inr (.inr ⟨⟨k, e, rfl⟩, rfl⟩)) h1 h
        · rename_i n e hu
          obtain rfl := Option.some.inj hc
          exact sound_lenc hF hR hop hcal hl (by simp [Builtin.len_, t0, run_underlying hu]) h
        · rename_i e hu
          split at hc
          · rename_i n e' hu'
            obtain rfl := Option.some.inj hc
            exact sound_lenc hF hR hop hcal hl (by simp [Builtin.len_, t0, run_underlying hu, run_underlying hu']) h
          · cases hc
        · cases hc
      · rename_i p ps hargs
        obtain ⟨x1, xs, hl, h1, h2⟩ := cOpds_cons hargs
        obtain rfl := Option.some.inj hc
        exact sound_mn hF hR hop hcal hl h1 h2 h
      · rename_i p ps hargs
        obtain ⟨x1, xs, hl, h1, h2⟩ := cOpds_cons hargs
        obtain rfl := Option.some.inj hc
        exact sound_mx hF hR hop hcal hl h1 h2 h
      · rename_i st ts d s hty hargs
        obtain ⟨x1, x2, hl, h1, h2⟩ := cOpds_two hargs
        split at hc
        · rename_i e hu
          simp only [Option.map_eq_some_iff] at hc
          obtain ⟨n, hn, rfl⟩ := hc
          exact sound_copy hF hR hop hcal hl (ty0 hty) hu hn h1 h2 h
        · cases hc
      · rename_i t ts x hty hargs
        obtain ⟨x1, hl, h1⟩ := cOpds_one hargs
        split at hc
        · rename_i e hu
          split at hc
          · rename_i z hz
            obtain rfl := Option.some.inj hc
            exact sound_clear hF hR hop hcal hl (ty0 hty) hu hz h1 h
          · cases hc
        · cases hc
      · rename_i t ts m k hty hargs
        obtain ⟨x1, x2, hl, h1, h2⟩ := cOpds_two hargs
        split at hc
        · rename_i kt et hu
          split at hc
          · rename_i kk hk
            obtain rfl := Option.some.inj hc
            exact sound_del hF hR hop hcal hl (ty0 hty) hu hk h1 h2 h
          · cases hc
        · cases hc
      · cases hc
    · cases hc
  all_goals cases hc
end Go.Eng
