/-
  The abstract evaluator's values and states, and what they say of a world.
-/
import Derived.Test.YtiemcnndfhbidaaGreatDoorE1
namespace Go.Eng
open Go.RowKit (Below)

inductive Cap where
  | known (c : Nat)
  | opn (z : Nat)
  deriving DecidableEq, Repr

/-- A sum of numbers that are not known (none of them below 0), each so many times. -/
structure Lin where
  c : Int
  ts : List (Int × Nat)
  deriving DecidableEq
def linSum (th : Nat → Nat) : List (Int × Nat) → Int
  | [] => 0
  | (a, i) :: r => a * (th i : Int) + linSum th r
def Lin.ev (th : Nat → Nat) (L : Lin) : Int := L.c + linSum th L.ts
/-- What is known of a value of which nothing else is known. -/
inductive AK where
  | s
  | sl
  | i (k : IntKind)
  | b
  deriving DecidableEq
inductive AV where
  | bool (b : Bool)
  | int (k : IntKind) (n : Int)
  | str (s : List Nat)
  | ptr (id off : Nat)
  | nilp
  | sl (id off len : Nat) (cap : Cap)
  | nils
  | mp (id : Nat)
  | nilm
  | fn (f : Fn) (first captured : List AV)
  | nilf
  | ifc (t : TypeId) (v : AV)
  | nili
  | agg (cs : List AV)
  | tup (vs : List AV)
  | yld (l : Nat)
  | rng (k : IntKind) (L : Option Lin) (lo hi : Int)
  | any (k : AK)
  deriving Inhabited

/-- Not an aggregate: a value of one cell. -/
def AV.one : AV → Bool
  | .agg _ | .tup _ => false
  | _ => true
def AV.cells : AV → List AV
  | .agg cs => cs
  | v => [v]
/-- Two plain values are the same (false: they are not, or it can't be seen). -/
def AV.same : AV → AV → Bool
  | .bool a, .bool b => a == b
  | .int j a, .int k b => j == k && a == b
  | .str a, .str b => a == b
  | .ptr i o, .ptr j p => Nat.beq i j && Nat.beq o p
  | .nilp, .nilp => true
  | .sl i o n c, .sl j p m d => Nat.beq i j && Nat.beq o p && Nat.beq n m && c == d
  | .nils, .nils => true
  | .mp i, .mp j => Nat.beq i j
  | .nilm, .nilm => true
  | .nilf, .nilf => true
  | .nili, .nili => true
  | .any j, .any k => j == k
  | .rng j L a b, .rng k M c d => j == k && L == M && a == c && b == d
  | _, _ => false
theorem AV.same_eq {a b : AV} (h : a.same b = true) : a = b := by
  cases a <;> cases b <;> simp_all [AV.same]

inductive Opd where
  | t (n : Nat)
  | c (v : AV)

/-- Kinds of things that == compares. -/
inductive EK where
  | bool | ptr | slice | map | func

/-- Plain kinds of cells. -/
inductive PK where
  | b | i | s

/-- What has a length. -/
inductive LK where
  | str | sl | m

inductive CI where
  | mov (x : Opd)
  | pick (c a b : Opd)
  | alloc (z : List AV)
  | box (x : Opd)
  | build (z : List AV) (parts : List (Nat × Nat × Opd))
  | buildSl (len : Nat) (z : List AV) (parts : List (Nat × Nat × Opd))
  | load (ag : Bool) (n : Nat) (a : Opd)
  | store (n : Nat) (a x : Opd)
  | nilck (x : Opd)
  | addoff (k : Nat) (x : Opd)
  | idx (sz : Nat) (x i : Opd)
  | idxarr (len sz : Nat) (x i : Opd)
  | fld (ag : Bool) (off n : Nat) (x : Opd)
  | bin (op : BinOp) (x y : Opd)
  | eqq (k : EK) (neg : Bool) (x y : Opd)
  | eqs (ks : List PK) (neg : Bool) (x y : Opd)
  | un (op : UnOp) (x : Opd)
  | conv (k : IntKind) (x : Opd)
  | slice (sz : Nat) (x : Opd) (lo hi mx : Option Opd)
  | slstr (x : Opd) (lo hi : Option Opd)
  | append (sz bytes : Nat) (z : List AV) (s x : Opd)
  | copy (sz : Nat) (d s : Opd)
  | clear (z : List AV) (x : Opd)
  | len (k : LK) (x : Opd)
  | lenc (n : Nat)
  | mn (x : Opd) (xs : List Opd)
  | mx (x : Opd) (xs : List Opd)
  | mkfn (f : Fn) (first caps : List Opd)
  | mkmap
  | lookup (kk : PK) (ok : Bool) (z : AV) (m k : Opd)
  | mapset (kk : PK) (m k v : Opd)
  | del (kk : PK) (m k : Opd)
  | range (x : Opd)
  | next (it : Opd)
  | entry (it : Opd)
  | ext (x : Opd) (i : Nat)
  | ifc (t : TypeId) (x : Opd)
  | call (f : Opd) (args : List Opd)
  | idxv (ag : Bool) (len n : Nat) (x i : Opd)
  | idxs (x i : Opd)
  | b2s (x : Opd)
  | strid (x : Opd)
  | s2b (x : Opd)
  | mkslice (sz bytes : Nat) (z : List AV) (len cap : Opd)
  | slarr (n sz : Nat) (x : Opd) (lo hi mx : Option Opd)
  | bad

structure COp where
  dst : Option Nat
  guard : Option (Nat × Bool)
  pre : Bool
  ci : CI
  early : List (Nat × Nat × Opd)
inductive CC where
  | skip
  | region (n : Nat) (ops : List COp)
  | drawn (n m : Nat) (ops : List COp) (ps cs : List (Nat × Nat))
  | seq (a b : CC)
  | cond (c : Opd) (x y : CC)
  | block (id : Nat) (c : CC)
  | loop (c : CC)
  | exit (id : Nat)
  | rfn (x : Opd) (ps : List Nat) (a b : CC)
  | ret
/-- What a block holds. -/
inductive Blk where
  | cells (cs : List (Option AV)) (root pos : Nat) (wr alone tail : Bool)
  | map (es : List (AV × AV × Nat)) (clock : Nat)
  | iter (m : Option Nat) (since : Nat) (seen : List Nat) (stepped : Nat)
  | loop (busy : Bool) (n : Nat) (m : Trie AV) (ps : List Nat) (a b : CC)
  | obj (o : Obj)
  | gone

structure St where
  h : Trie Blk
  next : Nat
def St.get (S : St) (id : Nat) : Option Blk := S.h.get id
def St.put (S : St) (id : Nat) (k : Blk) : St := { S with h := S.h.set id (some k) }
theorem St.get_put (S : St) (id j : Nat) (k : Blk) : (S.put id k).get j = if j = id then some k else S.get j := Trie.get_set _ _ _ _
theorem St.next_put (S : St) (id : Nat) (k : Blk) : (S.put id k).next = S.next := rfl

/-- Where an abstract block lies: the block, where in it, how many cells the whole block has. -/
structure Real where
  b : Nat
  sh : Nat
  tot : Nat
structure Pl where
  at_ : Nat → Option Real
  ok : Code → CC → Prop
  th : Nat → Nat
instance : CoeFun Pl (fun _ => Nat → Option Real) := ⟨Pl.at_⟩

def bs (s : ByteArray) : List Nat := s.data.toList.map UInt8.toNat

def Cap.fits (cap : Cap) (r : Real) (off c : Nat) : Prop :=
  match cap with
  | .known n => c = n
  | .opn z => r.sh + off + c * z ≤ r.tot

def Any : AK → Value → Prop
  | .s, v => ∃ s, v = .string s
  | .sl, v => ∃ p l c, v = .slice p l c
  | .i k, v => ∃ n, v = .int k n
  | .b, v => ∃ b, v = .bool b

mutual
inductive V (ρ : Pl) : AV → Value → Prop
  | bool {b : Bool} : V ρ (.bool b) (.bool b)
  | int {k : IntKind} {n : Int} : V ρ (.int k n) (.int k n)
  | str {l : List Nat} {s : ByteArray} : bs s = l → V ρ (.str l) (.string s)
  | ptr {id off : Nat} {r : Real} : ρ id = some r → V ρ (.ptr id off) (.pointer (some ⟨r.b, r.sh + off, none⟩))
  | nilp : V ρ .nilp (.pointer none)
  | sl {id off len c : Nat} {cap : Cap} {r : Real} {a : Addr} : ρ id = some r → len ≤ c → cap.fits r off c →
      ((len = 0 ∧ c = 0) ∨ a = ⟨r.b, r.sh + off, none⟩) → V ρ (.sl id off len cap) (.slice (some a) len c)
  | nils : V ρ .nils (.slice none 0 0)
  | mp {id : Nat} {r : Real} : ρ id = some r → V ρ (.mp id) (.map (some r.b))
  | nilm : V ρ .nilm (.map none)
  | fn {f : Fn} {as cs : List AV} {xs ys : List Value} : VL ρ as xs → VL ρ cs ys → V ρ (.fn f as cs) (.func f xs.toArray ys.toArray)
  | nilf : V ρ .nilf .nilFunc
  | ifc {t : TypeId} {v : AV} {x : Value} : V ρ v x → V ρ (.ifc t v) (.iface t x)
  | nili : V ρ .nili .nilIface
  | agg {cs : List AV} {xs : List Value} : VL ρ cs xs → V ρ (.agg cs) (.agg xs.toArray)
  | tup {cs : List AV} {xs : List Value} : VL ρ cs xs → V ρ (.tup cs) (.tuple xs.toArray)
  | yld {l : Nat} {r : Real} : ρ l = some r → V ρ (.yld l) (.func (.yield r.b) #[] #[])
  | rng {k : IntKind} {L : Option Lin} {lo hi n : Int} : lo ≤ n → n ≤ hi → (∀ M, L = some M → n = M.ev ρ.th) → V ρ (.rng k L lo hi) (.int k n)
  | any {k : AK} {v : Value} : Any k v → V ρ (.any k) v
inductive VL (ρ : Pl) : List AV → List Value → Prop
  | nil : VL ρ [] []
  | cons {a : AV} {v : Value} {as : List AV} {vs : List Value} : V ρ a v → VL ρ as vs → VL ρ (a :: as) (v :: vs)
end

/-- More blocks are known. -/
structure Sub (ρ ρ' : Pl) : Prop where
  get : ∀ id r, ρ id = some r → ρ' id = some r
  ok : ρ'.ok = ρ.ok
  th : ρ'.th = ρ.th
instance {ρ ρ' : Pl} : CoeFun (Sub ρ ρ') (fun _ => ∀ id r, ρ id = some r → ρ' id = some r) := ⟨Sub.get⟩
theorem Sub.refl (ρ : Pl) : Sub ρ ρ := ⟨fun _ _ h => h, rfl, rfl⟩
theorem Sub.trans {a b c : Pl} (h : Sub a b) (k : Sub b c) : Sub a c := ⟨fun _ _ e => k _ _ (h _ _ e), k.ok.trans h.ok, k.th.trans h.th⟩

mutual
theorem V.mono {ρ ρ' : Pl} (s : Sub ρ ρ') : ∀ {a : AV} {v : Value}, V ρ a v → V ρ' a v
  | _, _, .bool => .bool
  | _, _, .int => .int
  | _, _, .str h => .str h
  | _, _, .ptr h => .ptr (s _ _ h)
  | _, _, .nilp => .nilp
  | _, _, .sl h a b c => .sl (s _ _ h) a b c
  | _, _, .nils => .nils
  | _, _, .mp h => .mp (s _ _ h)
  | _, _, .nilm => .nilm
  | _, _, .fn h k => .fn (VL.mono s h) (VL.mono s k)
  | _, _, .nilf => .nilf
  | _, _, .ifc h => .ifc (V.mono s h)
  | _, _, .nili => .nili
  | _, _, .agg h => .agg (VL.mono s h)
  | _, _, .tup h => .tup (VL.mono s h)
  | _, _, .yld h => .yld (s _ _ h)
  | _, _, .rng a b c => .rng a b (by rw [s.th]; exact c)
  | _, _, .any h => .any h
theorem VL.mono {ρ ρ' : Pl} (s : Sub ρ ρ') : ∀ {as : List AV} {vs : List Value}, VL ρ as vs → VL ρ' as vs
  | _, _, .nil => .nil
  | _, _, .cons h k => .cons (V.mono s h) (VL.mono s k)
end

theorem VL.length {ρ : Pl} : ∀ {as : List AV} {vs : List Value}, VL ρ as vs → as.length = vs.length
  | _, _, .nil => rfl
  | _, _, .cons _ k => congrArg (· + 1) (VL.length k)
theorem VL.get {ρ : Pl} : ∀ {as : List AV} {vs : List Value}, VL ρ as vs → ∀ {i : Nat} {a : AV}, as[i]? = some a → ∃ v, vs[i]? = some v ∧ V ρ a v
  | _, _, .nil, i, a, h => by simp at h
  | _, _, .cons (v := v) hv k, i, a, h => by
    cases i with
    | zero => simp at h; subst h; exact ⟨v, by simp, hv⟩
    | succ i => simp at h; obtain ⟨x, hx, hr⟩ := VL.get k h; exact ⟨x, by simpa using hx, hr⟩
theorem VL.app {ρ : Pl} : ∀ {as : List AV} {vs : List Value} {bs : List AV} {ws : List Value}, VL ρ as vs → VL ρ bs ws → VL ρ (as ++ bs) (vs ++ ws)
  | _, _, _, _, .nil, k => k
  | _, _, _, _, .cons h t, k => .cons h (VL.app t k)
theorem VL.one {ρ : Pl} {a : AV} {v : Value} (h : V ρ a v) : VL ρ [a] [v] := .cons h .nil
theorem VL.drop {ρ : Pl} : ∀ {as : List AV} {vs : List Value} (n : Nat), VL ρ as vs → VL ρ (as.drop n) (vs.drop n)
  | _, _, 0, h => h
  | _, _, _ + 1, .nil => .nil
  | _, _, n + 1, .cons _ k => VL.drop n k
theorem VL.take {ρ : Pl} : ∀ {as : List AV} {vs : List Value} (n : Nat), VL ρ as vs → VL ρ (as.take n) (vs.take n)
  | _, _, 0, _ => .nil
  | _, _, _ + 1, .nil => .nil
  | _, _, n + 1, .cons h k => .cons h (VL.take n k)
theorem VL.set {ρ : Pl} {a : AV} {v : Value} (hv : V ρ a v) : ∀ {as : List AV} {vs : List Value} (n : Nat), VL ρ as vs → VL ρ (as.set n a) (vs.set n v)
  | _, _, _, .nil => .nil
  | _, _, 0, .cons _ k => .cons hv k
  | _, _, n + 1, .cons h k => .cons h (VL.set hv n k)

theorem V.one_oneCell {ρ : Pl} {a : AV} {v : Value} (h : V ρ a v) (ho : a.one = true) : v.oneCell' = true := by
  cases h
  case any k h =>
    cases k
    · obtain ⟨s, rfl⟩ := h; rfl
    · obtain ⟨p, l, c, rfl⟩ := h; rfl
    · obtain ⟨n, rfl⟩ := h; rfl
    · obtain ⟨b, rfl⟩ := h; rfl
  all_goals simp_all [AV.one, Value.oneCell']
theorem V.cells {ρ : Pl} {a : AV} {v : Value} (h : V ρ a v) : VL ρ a.cells v.cells.toList := by
  cases h
  case agg h => simpa [AV.cells, Value.cells] using h
  case bool => exact .one .bool
  case int => exact .one .int
  case str h => exact .one (.str h)
  case ptr h => exact .one (.ptr h)
  case nilp => exact .one .nilp
  case sl a b c d => exact .one (.sl a b c d)
  case nils => exact .one .nils
  case mp h => exact .one (.mp h)
  case nilm => exact .one .nilm
  case fn h k => exact .one (.fn h k)
  case nilf => exact .one .nilf
  case ifc h => exact .one (.ifc h)
  case nili => exact .one .nili
  case tup h => exact .one (.tup h)
  case yld h => exact .one (.yld h)
  case rng a b c => exact .one (.rng a b c)
  case any k h =>
    cases k
    · obtain ⟨s, rfl⟩ := h; exact .one (.any ⟨s, rfl⟩)
    · obtain ⟨p, l, c, rfl⟩ := h; exact .one (.any ⟨p, l, c, rfl⟩)
    · obtain ⟨n, rfl⟩ := h; exact .one (.any ⟨n, rfl⟩)
    · obtain ⟨b, rfl⟩ := h; exact .one (.any ⟨b, rfl⟩)

/-- The entries of a map. -/
inductive EL (ρ : Pl) : List (AV × AV × Nat) → List MapEntry → Prop
  | nil : EL ρ [] []
  | cons {k x : AV} {n : Nat} {e : MapEntry} {l : List (AV × AV × Nat)} {es : List MapEntry} : V ρ k e.key → V ρ x e.val → e.born = n → EL ρ l es → EL ρ ((k, x, n) :: l) (e :: es)
theorem EL.mono {ρ ρ' : Pl} (s : Sub ρ ρ') : ∀ {l : List (AV × AV × Nat)} {es : List MapEntry}, EL ρ l es → EL ρ' l es
  | _, _, .nil => .nil
  | _, _, .cons h k e t => .cons (h.mono s) (k.mono s) e (EL.mono s t)

/-- What a block of the world is, if an abstract block lies there. -/
def BlkRel (ρ : Pl) (k : Blk) (r : Real) (w : World) : Prop :=
  match k with
  | .cells cs _ _ _ _ _ => ∃ c ty lo hi, w.heap[r.b]? = some (.cells c ty (lo, hi)) ∧ r.tot = c.size ∧ r.sh + cs.length ≤ c.size ∧
      (∀ i, r.sh ≤ i → i < c.size → ¬ (lo ≤ i ∧ i < hi)) ∧
      ∀ (i : Nat) (v : AV), cs[i]? = some (some v) → ∃ x, c[r.sh + i]? = some x ∧ V ρ v x
  | .map es clock => ∃ ces, w.heap[r.b]? = some (.map ces clock) ∧ EL ρ es ces.toList
  | .iter m since seen stepped => r.sh = 0 ∧ ∃ rm, w.heap[r.b]? = some (.mapIter rm since seen.toArray stepped) ∧
      match m with
      | none => rm = none
      | some id => ∃ q, ρ id = some q ∧ rm = some q.b
  | .loop busy n m ps a b => ∃ fn tmps assign body D, w.heap[r.b]? = some (.loop { state := (match busy with | true => .busy | false => .ready), pending := none, fn := fn, tmps := tmps, params := ps.toArray, assign := assign, body := body, defers := D }) ∧
      tmps.size = n ∧ (∀ t, V ρ ((m.get t).getD (.tup [])) (tmps.getD t (.tuple #[]))) ∧ ρ.ok assign a ∧ ρ.ok body b
  | .obj o => w.heap[r.b]? = some o
  | .gone => True
theorem BlkRel.mono {ρ ρ' : Pl} (s : Sub ρ ρ') {k : Blk} {r : Real} {w : World} (h : BlkRel ρ k r w) : BlkRel ρ' k r w := by
  cases k with
  | cells cs root pos wr alone tail =>
    obtain ⟨c, ty, lo, hi, a, b, d, e, f⟩ := h
    exact ⟨c, ty, lo, hi, a, b, d, e, fun i v hv => let ⟨x, hx, hr⟩ := f i v hv; ⟨x, hx, hr.mono s⟩⟩
  | map es clock => obtain ⟨ces, a, b⟩ := h; exact ⟨ces, a, b.mono s⟩
  | iter m since seen stepped =>
    obtain ⟨z, rm, a, b⟩ := h
    refine ⟨z, rm, a, ?_⟩
    cases m with
    | none => exact b
    | some id => obtain ⟨q, hq, e⟩ := b; exact ⟨q, s _ _ hq, e⟩
  | loop busy n m ps a b =>
    obtain ⟨fn, tmps, assign, body, D, h1, h2, h3, h4, h5⟩ := h
    exact ⟨fn, tmps, assign, body, D, h1, h2, fun t => (h3 t).mono s, by rw [s.ok]; exact h4, by rw [s.ok]; exact h5⟩
  | obj o => exact h
  | gone => trivial
theorem BlkRel.same {ρ : Pl} {k : Blk} {r : Real} {w w' : World} (h : BlkRel ρ k r w) (e : w'.heap[r.b]? = w.heap[r.b]?) : BlkRel ρ k r w' := by
  cases k with
  | cells cs root pos wr alone tail => obtain ⟨c, ty, lo, hi, a, b⟩ := h; exact ⟨c, ty, lo, hi, e.trans a, b⟩
  | map es clock => obtain ⟨ces, a, b⟩ := h; exact ⟨ces, e.trans a, b⟩
  | iter m since seen stepped => obtain ⟨z, rm, a, b⟩ := h; exact ⟨z, rm, e.trans a, b⟩
  | loop busy n m ps a b => obtain ⟨fn, tmps, assign, body, D, h1, h2⟩ := h; exact ⟨fn, tmps, assign, body, D, e.trans h1, h2⟩
  | obj o => exact e.trans h
  | gone => trivial

/-- May it be written? (What came in from outside may not.) -/
def Blk.may : Blk → Bool
  | .cells _ _ _ wr _ _ => wr
  | _ => true
/-- Two abstract blocks that may lie in one block. -/
def Kin (k : Blk) (r : Real) (k' : Blk) (r' : Real) : Prop :=
  match k, k' with
  | .cells _ root pos _ _ _, .cells _ root' pos' _ _ _ => root = root' ∧ r.sh + pos' = r'.sh + pos
  | _, _ => False
theorem Kin.symm {k k' : Blk} {r r' : Real} (h : Kin k r k' r') : Kin k' r' k r := by
  cases k <;> cases k' <;> simp_all [Kin]
/-- What is so of the abstract state alone. -/
structure Ok (S : St) : Prop where
  tail : ∀ id cs root pos wr alone, S.get id = some (.cells cs root pos wr alone true) →
    ∀ id' cs' pos' wr' alone' tail', S.get id' = some (.cells cs' root pos' wr' alone' tail') → pos' + cs'.length ≤ pos + cs.length
  uniq : ∀ id cs root pos wr alone, S.get id = some (.cells cs root pos wr alone true) →
    ∀ id' cs' pos' wr' alone', S.get id' = some (.cells cs' root pos' wr' alone' true) → id' = id
  alone : ∀ id cs root pos wr tail, S.get id = some (.cells cs root pos wr true tail) →
    ∀ id' cs' pos' wr' alone' tail', S.get id' = some (.cells cs' root pos' wr' alone' tail') → id' = id
  root : ∀ id cs root pos wr alone tail, S.get id = some (.cells cs root pos wr alone tail) → root < S.next
/-- The abstract state S says this of the world w; what lay below B when it was w0 lies there still. -/
structure R (B : Nat) (w0 : World) (ρ : Pl) (S : St) (w : World) : Prop where
  ok : Ok S
  below : Below B w0 w
  base : B ≤ w.heap.size
  dom : ∀ id r, ρ id = some r → id < S.next ∧ r.b < w.heap.size
  blk : ∀ id k r, S.get id = some k → ρ id = some r → BlkRel ρ k r w
  fresh : ∀ id k r, S.get id = some k → ρ id = some r → k.may = true → B ≤ r.b
  sep : ∀ id k r id' k' r', S.get id = some k → ρ id = some r → S.get id' = some k' → ρ id' = some r' → id ≠ id' → r.b = r'.b → Kin k r k' r'
end Go.Eng
