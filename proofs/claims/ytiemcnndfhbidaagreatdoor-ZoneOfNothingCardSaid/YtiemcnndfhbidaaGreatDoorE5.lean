/-
  From the model's operations to compiled ones; frames; the operations that leave memory alone are carried out alike.
-/
import Derived.Test.YtiemcnndfhbidaaGreatDoorE4
import Derived.ProofKit
import Derived.WalkKit
namespace Go.Eng
open Go.RowKit (Below)

def ofVal1 : Value → Option AV
  | .bool b => some (.bool b)
  | .int k n => some (.int k n)
  | .string s => some (.str (bs s))
  | .pointer none => some .nilp
  | .slice none 0 0 => some .nils
  | .map none => some .nilm
  | .nilFunc => some .nilf
  | .nilIface => some .nili
  | _ => none
def ofVals : List Value → Option (List AV)
  | [] => some []
  | v :: vs => match ofVal1 v with
    | some a => (ofVals vs).map (a :: ·)
    | none => none
def ofVal : Value → Option AV
  | .agg cs => (ofVals cs.toList).map .agg
  | v => ofVal1 v
def cOpd : Operand → Option Opd
  | .tmp t => some (.t t)
  | .const v => (ofVal v).map .c
  | .func f => some (.c (.fn (.func f) [] []))
  | .global _ => none
def cOpds : List Operand → Option (List Opd)
  | [] => some []
  | x :: xs => match cOpd x with
    | some y => (cOpds xs).map (y :: ·)
    | none => none
def cOpdO : Option Operand → Option (Option Opd)
  | none => some none
  | some x => (cOpd x).map some
def sizeT (P : Program) (t : TypeId) : Option Nat := (P.info? t).map (·.size)
def zeroT (P : Program) (t : TypeId) : Option (List AV) := match P.info? t with
  | some i => match i.zero with
    | some z => ofVals z.cells.toList
    | none => none
  | none => none
def zeroV (P : Program) (t : TypeId) : Option AV := match P.info? t with
  | some i => match i.zero with
    | some z => ofVal z
    | none => none
  | none => none
def aggT (P : Program) (t : TypeId) : Option Bool := (P.underlying t).map fun | .struct _ | .array _ _ => true | _ => false
/-- The parts of a struct or an array: where each lies, how many cells it has. -/
def cParts (place : Nat → Option (Nat × Nat)) : List (Nat × Operand) → Option (List (Nat × Nat × Opd))
  | [] => some []
  | (i, x) :: r => match place i, cOpd x with
    | some (off, size), some y => (cParts place r).map ((off, size, y) :: ·)
    | _, _ => none
def placeS (P : Program) (fields : Array Field) (i : Nat) : Option (Nat × Nat) := match fields[i]? with
  | some f => (sizeT P f.type).map (f.offset, ·)
  | none => none
/-- The kinds of a plain value's cells, one behind the other; none: it is not plain, or has gaps. -/
def flatFs (P : Program) (g : TypeId → Option (List PK)) : List Field → Nat → Option (List PK)
  | [], _ => some []
  | f :: fs, k => match g f.type, sizeT P f.type with
    | some ks, some n => match Nat.beq f.offset k, decide (f.name = "_"), Nat.beq n ks.length with
      | true, false, true => (flatFs P g fs (k + ks.length)).map (ks ++ ·)
      | _, _, _ => none
    | _, _ => none
def repL (ks : List PK) : Nat → List PK
  | 0 => []
  | n + 1 => ks ++ repL ks n
def flatK (P : Program) : Nat → TypeId → Option (List PK)
  | 0, _ => none
  | d + 1, t => match P.underlying t with
    | some .bool => some [.b]
    | some (.int _) => some [.i]
    | some .string => some [.s]
    | some (.struct fs) => match P.stoodInHeld t with
      | true => none
      | false => flatFs P (flatK P d) fs.toList 0
    | some (.array n e) => match flatK P d e, P.info? e with
      | some ks, some i => match Nat.beq i.size ks.length with
        | true => some (repL ks n)
        | false => none
      | _, _ => none
    | _ => none
def plainK (P : Program) (t : TypeId) : Option PK := match P.underlying t with | some .bool => some .b | some (.int _) => some .i | some .string => some .s | _ => none
def isRet : Operand → Bool
  | .const _ => true
  | _ => false

def comp (P : Program) (o : Op) : Option CI :=
  match o with
  | .move x | .assign x => (cOpd x).map .mov
  | .pick c a b => match cOpd c, cOpd a, cOpd b with
    | some c, some a, some b => some (.pick c a b)
    | _, _, _ => none
  | .alloc t => (zeroT P t).map .alloc
  | .box _ x => (cOpd x).map .box
  | .build t ps => match P.underlying t with
    | some (.struct fields) => match zeroT P t, fields.toList.all (fun f => (sizeT P f.type).isSome), cParts (placeS P fields) ps.toList with
      | some z, true, some l => some (.build z l)
      | _, _, _ => none
    | some (.array _ e) => match zeroT P t, sizeT P e with
      | some z, some n => (cParts (fun i => some (i * n, n)) ps.toList).map (.build z)
      | _, _ => none
    | _ => none
  | .buildSlice t len ps => match P.underlying t with
    | some (.slice e) => match sizeT P e, zeroT P e with
      | some n, some z => match Nat.ble (len * n) 16777216 && Nat.ble 1 z.length with
        | true => (cParts (fun i => some (i * n, n)) ps.toList).map (.buildSl len (repZ z (len * n)))
        | false => none
      | _, _ => none
    | _ => none
  | .load t a => match aggT P t, sizeT P t, cOpd a with
    | some g, some n, some x => some (.load g n x)
    | _, _, _ => none
  | .store t a v => match sizeT P t, cOpd a, cOpd v with
    | some n, some x, some y => some (.store n x y)
    | _, _, _ => none
  | .nilCheck x => (cOpd x).map .nilck
  | .fieldAddr t x f => match P.underlying t with
    | some (.struct fields) => match fields[f]? with
      | some fd => match sizeT P fd.type, cOpd x with
        | some (_ + 1), some y => some (.addoff fd.offset y)
        | _, _ => none
      | none => none
    | _ => none
  | .indexAddr t x i => match P.underlying t, cOpd x, cOpd i with
    | some (.slice e), some y, some j => (sizeT P e).map fun n => .idx n y j
    | some (.array len e), some y, some j => (sizeT P e).map fun n => .idxarr len n y j
    | _, _, _ => none
  | .index t x i => match P.underlying t, cOpd x, cOpd i with
    | some (.array len e), some y, some j => match aggT P e, sizeT P e with
      | some g, some n => some (.idxv g len n y j)
      | _, _ => none
    | some .string, some y, some j => some (.idxs y j)
    | _, _, _ => none
  | .field t x f => match P.underlying t with
    | some (.struct fields) => match fields[f]? with
      | some fd => match aggT P fd.type, sizeT P fd.type, cOpd x with
        | some g, some n, some y => some (.fld g fd.offset n y)
        | _, _, _ => none
      | none => none
    | _ => none
  | .binOp op t x y _ => match cOpd x, cOpd y with
    | some a, some b => match P.underlying t with
      | some (.int _) | some .string => some (.bin op a b)
      | some (.pointer e) => match sizeT P e with
        | some (_ + 1) => match op with
          | .eql => some (.eqq .ptr false a b)
          | .neq => some (.eqq .ptr true a b)
          | _ => none
        | _ => none
      | some .bool => match op with
        | .eql => some (.eqq .bool false a b)
        | .neq => some (.eqq .bool true a b)
        | _ => none
      | some (.slice _) => match op with
        | .eql => some (.eqq .slice false a b)
        | .neq => some (.eqq .slice true a b)
        | _ => none
      | some (.map _ _) => match op with
        | .eql => some (.eqq .map false a b)
        | .neq => some (.eqq .map true a b)
        | _ => none
      | some (.func _ _ _) => match op with
        | .eql => some (.eqq .func false a b)
        | .neq => some (.eqq .func true a b)
        | _ => none
      | some (.struct _) | some (.array _ _) => match flatK P 20 t, P.eqGuardType P.depth t with
        | some ks, false => match op with
          | .eql => some (.eqs ks false a b)
          | .neq => some (.eqs ks true a b)
          | _ => none
        | _, _ => none
      | _ => none
    | _, _ => none
  | .unOp op _ x => (cOpd x).map (.un op)
  | .convert s d x => match P.underlying s, P.underlying d, cOpd x with
    | some _, some (.int k), some y => some (.conv k y)
    | some (.slice e), some .string, some y => match P.underlying e with
      | some (.int .u8) => some (.b2s y)
      | _ => none
    | some .string, some .string, some y => some (.strid y)
    | some .string, some (.slice e), some y => match P.underlying e with
      | some (.int .u8) => some (.s2b y)
      | _ => none
    | _, _, _ => none
  | .makeFunc fn first caps => match cOpds first.toList, cOpds caps.toList with
    | some a, some b => some (.mkfn fn a b)
    | _, _ => none
  | .makeMap _ none => some .mkmap
  | .makeSlice t l c => match P.underlying t, cOpd l, cOpd c with
    | some (.slice e), some x, some y => match P.info? e, zeroT P e with
      | some i, some z => match Nat.ble 1 i.bytes && Nat.ble 1 z.length with
        | true => some (.mkslice i.size i.bytes z x y)
        | false => none
      | _, _ => none
    | _, _, _ => none
  | .slice t x lo hi mx => match P.underlying t, cOpd x, cOpdO lo, cOpdO hi, cOpdO mx with
    | some (.slice e), some y, some l, some h, some m => (sizeT P e).map fun n => .slice n y l h m
    | some .string, some y, some l, some h, some none => some (.slstr y l h)
    | some (.pointer r), some y, some l, some h, some m => match P.underlying r with
      | some (.array n e) => (sizeT P e).map fun sz => .slarr n sz y l h m
      | _ => none
    | _, _, _, _, _ => none
  | .lookup t m k ok => match P.underlying t with
    | some (.map kt et) => match plainK P kt, zeroV P et, cOpd m, cOpd k with
      | some kk, some z, some a, some b => some (.lookup kk ok z a b)
      | _, _, _, _ => none
    | _ => none
  | .mapUpdate t m k v | .insert t m k v => match P.underlying t with
    | some (.map kt _) => match plainK P kt, cOpd m, cOpd k, cOpd v with
      | some kk, some a, some b, some c => some (.mapset kk a b c)
      | _, _, _, _ => none
    | _ => none
  | .range t x => match P.underlying t, cOpd x with
    | some (.map _ _), some y => some (.range y)
    | _, _ => none
  | .next it false => (cOpd it).map .next
  | .entry it => (cOpd it).map .entry
  | .extract x i => (cOpd x).map (.ext · i)
  | .makeInterface t x => match P.underlying t, cOpd x with
    | some (.interface _), _ => none
    | some _, some y => some (.ifc t y)
    | _, _ => none
  | .call c => match c.callee with
    | .value f => match cOpd f, cOpds c.args.toList with
      | some g, some xs => some (.call g xs)
      | _, _ => none
    | .builtin b => match b, c.argTypes.toList, cOpds c.args.toList with
      | .append, st :: xt :: _, some [s, x] => match P.underlying st with
        | some (.slice e) => match P.underlying xt with
          | some (.int _) | none => none
          | _ => match P.info? e with
            | some i => match i.zero with
              | some z => match Nat.ble 1 i.bytes, Nat.beq z.cells.size i.size with
                | true, true => some (.append i.size i.bytes [] s x)
                | _, _ => none
              | none => none
            | none => none
        | _ => none
      | .len, t :: _, some [x] => match P.underlying t with
        | some .string => some (.len .str x)
        | some (.slice _) => some (.len .sl x)
        | some (.map _ _) => some (.len .m x)
        | some (.array n _) => some (.lenc n)
        | some (.pointer e) => match P.underlying e with
          | some (.array n _) => some (.lenc n)
          | _ => none
        | _ => none
      | .min, _, some (x :: xs) => some (.mn x xs)
      | .max, _, some (x :: xs) => some (.mx x xs)
      | .copy, st :: _, some [d, s] => match P.underlying st with
        | some (.slice e) => (sizeT P e).map fun n => .copy n d s
        | _ => none
      | .clear, t :: _, some [x] => match P.underlying t with
        | some (.slice e) => match zeroT P e with
          | some z => some (.clear z x)
          | _ => none
        | _ => none
      | .delete, t :: _, some [m, k] => match P.underlying t with
        | some (.map kt _) => match plainK P kt with
          | some kk => some (.del kk m k)
          | none => none
        | _ => none
      | _, _, _ => none
    | .invoke _ _ => none
  | _ => none

/-! ### Frames -/
/-- The marks among the deferred calls. -/
inductive DL (ρ : Pl) : List Nat → List Deferred → Prop
  | nil : DL ρ [] []
  | cons {id : Nat} {r : Real} {ds : List Nat} {l : List Deferred} : ρ id = some r → DL ρ ds l → DL ρ (id :: ds) ({ target := .collected r.b, args := #[] } :: l)
theorem DL.mono {ρ ρ' : Pl} (s : Sub ρ ρ') : ∀ {ds : List Nat} {l : List Deferred}, DL ρ ds l → DL ρ' ds l
  | _, _, .nil => .nil
  | _, _, .cons h k => .cons (s _ _ h) (DL.mono s k)
structure FR (ρ : Pl) (fr : AFr) (a : Act) : Prop where
  size : a.tmps.size = fr.n
  at_ : ∀ t, V ρ (fr.get t) (a.tmps.getD t undef)
  dl : DL ρ fr.d a.defers
theorem FR.mono {ρ ρ' : Pl} {fr : AFr} {a : Act} (h : FR ρ fr a) (s : Sub ρ ρ') : FR ρ' fr a := ⟨h.size, fun t => (h.at_ t).mono s, h.dl.mono s⟩
theorem AFr.get_set (fr : AFr) (d t : Nat) (v : AV) : (fr.set d v).get t = if t = d then v else fr.get t := by
  unfold AFr.set AFr.get
  simp only [Trie.get_set]
  split <;> rfl
theorem V.undef {ρ : Pl} : V ρ (.tup []) undef := .tup .nil
theorem FR.put {ρ : Pl} {fr fr' : AFr} {a : Act} (h : FR ρ fr a) {dst : Option Nat} {v : AV} {x : Value} (hv : V ρ v x) (hp : fr.put dst v = some fr') : FR ρ fr' (a.put dst x) := by
  cases dst with
  | none => simp only [AFr.put, Option.some.injEq] at hp; subst hp; exact h
  | some d =>
    simp only [AFr.put_eq] at hp
    split at hp
    · rename_i hlt
      have hlt : d < fr.n := by simpa [Nat.blt, Nat.succ_le_iff] using hlt
      obtain rfl := Option.some.inj hp
      refine ⟨by simp [Act.put, AFr.set, h.size], fun t => ?_, h.dl⟩
      rw [AFr.get_set]
      by_cases e : t = d
      · subst e
        rw [if_pos rfl]
        have : t < a.tmps.size := by rw [h.size]; exact hlt
        simpa [Act.put, Array.getD_eq_getD_getElem?, this] using hv
      · rw [if_neg e]
        have := h.at_ t
        simpa [Act.put, Array.getD_eq_getD_getElem?, Array.getElem?_setIfInBounds_ne (Ne.symm e)] using this
    · cases hp

theorem ofVal1_sound {ρ : Pl} {v : Value} {a : AV} (h : ofVal1 v = some a) : V ρ a v := by
  unfold ofVal1 at h
  split at h <;> first | (obtain rfl := Option.some.inj h; constructor; done) | (obtain rfl := Option.some.inj h; exact .str rfl) | (cases h)
theorem ofVals_sound {ρ : Pl} : ∀ {vs : List Value} {as : List AV}, ofVals vs = some as → VL ρ as vs
  | [], as, h => by simp only [ofVals, Option.some.injEq] at h; subst h; exact .nil
  | v :: vs, as, h => by
    simp only [ofVals] at h
    split at h
    · rename_i a ha
      cases hr : ofVals vs with
      | none => simp [hr] at h
      | some l =>
        simp only [hr, Option.map_some, Option.some.injEq] at h
        subst h
        exact .cons (ofVal1_sound ha) (ofVals_sound hr)
    · cases h
theorem ofVal_sound {ρ : Pl} {v : Value} {a : AV} (h : ofVal v = some a) : V ρ a v := by
  unfold ofVal at h
  split at h
  · rename_i cs
    cases hr : ofVals cs.toList with
    | none => simp [hr] at h
    | some l =>
      simp only [hr, Option.map_some, Option.some.injEq] at h
      subst h
      have := V.agg (ofVals_sound (ρ := ρ) hr)
      simpa using this
  · exact ofVal1_sound h
theorem FR.ev {ρ : Pl} {fr : AFr} {a : Act} (h : FR ρ fr a) {x : Operand} {y : Opd} (hc : cOpd x = some y) : V ρ (fr.ev y) (a.eval x) := by
  cases x with
  | tmp t => simp only [cOpd, Option.some.injEq] at hc; subst hc; exact h.at_ t
  | const v =>
    simp only [cOpd, Option.map_eq_some_iff] at hc
    obtain ⟨w, hw, rfl⟩ := hc
    exact ofVal_sound hw
  | func f => simp only [cOpd, Option.some.injEq] at hc; subst hc; exact .fn .nil .nil
  | global g => simp [cOpd] at hc
theorem FR.evs {ρ : Pl} {fr : AFr} {a : Act} (h : FR ρ fr a) : ∀ {xs : List Operand} {ys : List Opd}, cOpds xs = some ys → VL ρ (Eng.evs fr.ev ys) (xs.map a.eval)
  | [], ys, hc => by simp only [cOpds, Option.some.injEq] at hc; subst hc; exact .nil
  | x :: xs, ys, hc => by
    simp only [cOpds] at hc
    split at hc
    · rename_i y hy
      simp only [Option.map_eq_some_iff] at hc
      obtain ⟨l, hl, rfl⟩ := hc
      exact .cons (h.ev hy) (h.evs hl)
    · cases hc

/-- What an operation has yielded. -/
def Ran (r : Result Next) (x : Value) (w' : World) : Prop := r = .ok (.value x) w' ∨ (r = .ok .skip w' ∧ x = undef)

/-- One step. -/
structure Step (B : Nat) (w0 : World) (ρ : Pl) (S : St) (rid : Nat) (ρ' : Pl) (S' : St) (w' : World) : Prop where
  sub : Sub ρ ρ'
  r : R B w0 ρ' S' w'
  next : S'.next = S.next
  fr : ∀ q, q ≠ rid → Fresh ρ S q → Fresh ρ' S' q
theorem Step.same {B : Nat} {w0 w : World} {ρ : Pl} {S : St} {rid : Nat} (h : R B w0 ρ S w) : Step B w0 ρ S rid ρ S w := ⟨.refl _, h, rfl, fun _ _ f => f⟩
end Go.Eng
