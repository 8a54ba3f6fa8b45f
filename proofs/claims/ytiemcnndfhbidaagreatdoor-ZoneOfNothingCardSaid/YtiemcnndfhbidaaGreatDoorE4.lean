/-
  Compiled operations and what they do to an abstract state.
-/
import Derived.Test.YtiemcnndfhbidaaGreatDoorE3
import Derived.IntWalk
namespace Go.Eng

/-- A frame: how many slots, and what is in them. -/
structure AFr where
  n : Nat
  m : Trie AV
  /-- The marks of ranges over functions. -/
  d : List Nat
  /-- Is it a round's? -/
  rd : Bool
def AFr.get (fr : AFr) (t : Nat) : AV := (fr.m.get t).getD (.tup [])
def AFr.ev (fr : AFr) : Opd → AV
  | .t n => fr.get n
  | .c v => v
def AFr.set (fr : AFr) (t : Nat) (v : AV) : AFr := { fr with m := fr.m.set t (some v) }
def AFr.put (fr : AFr) (dst : Option Nat) (v : AV) : Option AFr :=
  match dst with
  | none => some fr
  | some d => match fr with
    | ⟨n, m, ds, rd⟩ => match Nat.blt d n with
      | true => some ⟨n, m.set d (some v), ds, rd⟩
      | false => none
theorem AFr.put_eq (fr : AFr) (d : Nat) (v : AV) : fr.put (some d) v = (match Nat.blt d fr.n with | true => some (fr.set d v) | false => none) := by
  cases fr; rfl

/-! ### Numbers -/
def wrapF (k : IntKind) (n : Int) : Int :=
  match k, n with
  | .i64, .ofNat m => match Nat.ble m 9223372036854775807 with | true => .ofNat m | false => IntKind.i64.wrap (.ofNat m)
  | .i64, .negSucc m => match Nat.ble m 9223372036854775807 with | true => .negSucc m | false => IntKind.i64.wrap (.negSucc m)
  | .u64, .ofNat m => .ofNat (m % 18446744073709551616)
  | .u32, .ofNat m => .ofNat (m % 4294967296)
  | .u8, .ofNat m => .ofNat (m % 256)
  | k, n => k.wrap n
theorem wrapF_eq (k : IntKind) (n : Int) : wrapF k n = k.wrap n := by
  unfold wrapF
  split
  · split
    · rename_i m h
      have := Nat.le_of_ble_eq_true h
      exact (IntWalk.i64_in _ (by simp only [Int.ofNat_eq_natCast]; omega)).symm
    · rfl
  · split
    · rename_i m h
      have := Nat.le_of_ble_eq_true h
      exact (IntWalk.i64_in _ (by omega)).symm
    · rfl
  · simp [IntKind.wrap, IntKind.bits, IntKind.signed]
  · simp [IntKind.wrap, IntKind.bits, IntKind.signed]
  · simp [IntKind.wrap, IntKind.bits, IntKind.signed]
  · rfl
def shlF (k : IntKind) (a : Int) (n : Nat) : Int := wrapF k (a * Int.ofNat (2 ^ n))
theorem shlF_eq (k : IntKind) (a : Int) (n : Nat) : shlF k a n = k.wrap (a * 2 ^ n) := by
  rw [shlF, wrapF_eq]; congr 2
def shrF (a : Int) (n : Nat) : Int :=
  match a with
  | .ofNat m => .ofNat (m / 2 ^ n)
  | .negSucc m => (Int.negSucc m).fdiv (2 ^ n)
theorem shrF_eq (a : Int) (n : Nat) : shrF a n = a.fdiv (2 ^ n) := by
  cases a with
  | ofNat m =>
    show ((m / 2 ^ n : Nat) : Int) = _
    rw [show (2 : Int) ^ n = ((2 ^ n : Nat) : Int) from (Int.natCast_pow 2 n).symm]
    exact (Int.ofNat_fdiv m (2 ^ n))
  | negSucc m => rfl
def bitsF (op : BinOp) (k : IntKind) (x y : Int) : Option Int :=
  match x, y with
  | .ofNat a, .ofNat b =>
    match Nat.blt a (2 ^ k.bits), Nat.blt b (2 ^ k.bits) with
    | true, true =>
      match op with
      | .and => some (wrapF k (.ofNat (Nat.land a b)))
      | .or => some (wrapF k (.ofNat (Nat.lor a b)))
      | .xor => some (wrapF k (.ofNat (Nat.xor a b)))
      | _ => none
    | _, _ => none
  | _, _ => none
theorem bitsF_sound {op : BinOp} {k : IntKind} {x y r : Int} (h : bitsF op k x y = some r) (P : Program) (w : World) : (Op.intBits op k x y).run P w = .ok (.int k r) w := by
  unfold bitsF at h
  split at h
  · rename_i a b
    split at h
    · rename_i ha hb
      have ha : a < 2 ^ k.bits := by simpa [Nat.blt, Nat.succ_le_iff] using ha
      have hb : b < 2 ^ k.bits := by simpa [Nat.blt, Nat.succ_le_iff] using hb
      have e1 : BitVec.ofInt k.bits (Int.ofNat a) = BitVec.ofNat k.bits a := BitVec.ofInt_natCast _ _
      have e2 : BitVec.ofInt k.bits (Int.ofNat b) = BitVec.ofNat k.bits b := BitVec.ofInt_natCast _ _
      split at h
      · obtain rfl := Option.some.inj h
        have : ((BitVec.ofNat k.bits a) &&& (BitVec.ofNat k.bits b)).toNat = Nat.land a b := by
          rw [BitVec.toNat_and, BitVec.toNat_ofNat, BitVec.toNat_ofNat, Nat.mod_eq_of_lt ha, Nat.mod_eq_of_lt hb]; rfl
        simp only [Op.intBits, e1, e2, this, Sem.run_pure, wrapF_eq]
        rfl
      · obtain rfl := Option.some.inj h
        have : ((BitVec.ofNat k.bits a) ||| (BitVec.ofNat k.bits b)).toNat = Nat.lor a b := by
          rw [BitVec.toNat_or, BitVec.toNat_ofNat, BitVec.toNat_ofNat, Nat.mod_eq_of_lt ha, Nat.mod_eq_of_lt hb]; rfl
        simp only [Op.intBits, e1, e2, this, Sem.run_pure, wrapF_eq]
        rfl
      · obtain rfl := Option.some.inj h
        have : ((BitVec.ofNat k.bits a) ^^^ (BitVec.ofNat k.bits b)).toNat = Nat.xor a b := by
          rw [BitVec.toNat_xor, BitVec.toNat_ofNat, BitVec.toNat_ofNat, Nat.mod_eq_of_lt ha, Nat.mod_eq_of_lt hb]; rfl
        simp only [Op.intBits, e1, e2, this, Sem.run_pure, wrapF_eq]
        rfl
      · cases h
    · cases h
  · cases h

def intBin (op : BinOp) (k : IntKind) (a b : Int) : Option AV :=
  match op with
  | .add => some (.int k (wrapF k (a + b)))
  | .sub => some (.int k (wrapF k (a - b)))
  | .mul => some (.int k (wrapF k (a * b)))
  | .quo => match b == 0 with | true => none | false => some (.int k (wrapF k (a.tdiv b)))
  | .rem => match b == 0 with | true => none | false => some (.int k (a.tmod b))
  | .and => (bitsF .and k a b).map (.int k)
  | .or => (bitsF .or k a b).map (.int k)
  | .xor => (bitsF .xor k a b).map (.int k)
  | .eql => some (.bool (a == b))
  | .neq => some (.bool (a != b))
  | .lss => some (.bool (decide (a < b)))
  | .leq => some (.bool (decide (a ≤ b)))
  | .gtr => some (.bool (decide (a > b)))
  | .geq => some (.bool (decide (a ≥ b)))
  | _ => none
def natsLess : List Nat → List Nat → Bool
  | _, [] => false
  | [], _ :: _ => true
  | a :: x, b :: y => Nat.blt a b || (Nat.beq a b && natsLess x y)
def strBin (op : BinOp) (x y : List Nat) : Option AV :=
  match op with
  | .add => match Nat.ble (x.length + y.length) 9223372036854775807 with | true => some (.str (x ++ y)) | false => none
  | .eql => some (.bool (x == y))
  | .neq => some (.bool (!(x == y)))
  | .lss => some (.bool (natsLess x y))
  | .leq => some (.bool (natsLess x y || x == y))
  | .gtr => some (.bool (!(natsLess x y || x == y)))
  | .geq => some (.bool (!natsLess x y))
  | _ => none
def addTs : List (Int × Nat) → Int → Nat → List (Int × Nat)
  | [], a, i => [(a, i)]
  | (b, j) :: r, a, i => match Nat.beq i j with
    | true => (a + b, j) :: r
    | false => (b, j) :: addTs r a i
def Lin.add (L M : Lin) : Lin := ⟨L.c + M.c, M.ts.foldr (fun p r => addTs r p.1 p.2) L.ts⟩
def Lin.neg (L : Lin) : Lin := ⟨0 - L.c, L.ts.map fun p => (0 - p.1, p.2)⟩
def Lin.sub (L M : Lin) : Lin := L.add M.neg
/-- Surely not below 0. -/
def Lin.pos (L : Lin) : Bool := decide (0 ≤ L.c) && L.ts.all fun p => decide (0 ≤ p.1)
/-- An integer of a kind: its form, its least and its greatest. -/
structure AI where
  k : IntKind
  L : Option Lin
  r : Option (Int × Int)
def getI : AV → Option AI
  | .int k n => some ⟨k, some ⟨n, []⟩, some (n, n)⟩
  | .rng k L lo hi => some ⟨k, L, some (lo, hi)⟩
  | .any (.i k) => some ⟨k, none, none⟩
  | _ => none
def anyInt (x : AV) : Option IntKind := (getI x).map (·.k)
/-- Surely x + d ≤ y. -/
def leI (x y : AI) (d : Int) : Bool :=
  (match x.r, y.r with | some (_, b), some (c, _) => decide (b + d ≤ c) | _, _ => false) ||
  (match x.L, y.L with | some L, some M => ((M.sub L).add ⟨0 - d, []⟩).pos | _, _ => false)
def triB (t f : Bool) : AV := match t with | true => .bool true | false => match f with | true => .bool false | false => .any .b
def cmpI (op : BinOp) (x y : AI) : Option AV :=
  match op with
  | .lss => some (triB (leI x y 1) (leI y x 0))
  | .leq => some (triB (leI x y 0) (leI y x 1))
  | .gtr => some (triB (leI y x 1) (leI x y 0))
  | .geq => some (triB (leI y x 0) (leI x y 1))
  | .eql => some (triB (leI x y 0 && leI y x 0) (leI x y 1 || leI y x 1))
  | .neq => some (triB (leI x y 1 || leI y x 1) (leI x y 0 && leI y x 0))
  | _ => none
def fits (k : IntKind) (lo hi : Int) : Bool :=
  match k with
  | .i64 => decide ((-9223372036854775808 : Int) ≤ lo) && decide (hi ≤ 9223372036854775807)
  | .u64 => decide (0 ≤ lo) && decide (hi ≤ 18446744073709551615)
  | _ => false
def mkI (k : IntKind) (L : Option Lin) (lo hi : Int) : AV := match fits k lo hi with | true => .rng k L lo hi | false => .any (.i k)
def lin2 (f : Lin → Lin → Lin) : Option Lin → Option Lin → Option Lin
  | some L, some M => some (f L M)
  | _, _ => none
def aBinAny (op : BinOp) (x y : AV) : Option AV :=
  match getI x, getI y with
  | some a, some b =>
    match op, b.r with
    | .shr, some (m, n) => match m == n && decide (0 ≤ m), a.r with
      | true, some (lo, hi) => some (mkI a.k none (shrF lo (min m.toNat a.k.bits)) (shrF hi (min m.toNat a.k.bits)))
      | true, none => some (.any (.i a.k))
      | false, _ => none
    | .shl, some (m, n) => match m == n && decide (0 ≤ m) with
      | true => some (.any (.i a.k))
      | false => none
    | .shr, none => none
    | .shl, none => none
    | op, _ => match a.k == b.k with
      | true => match op with
        | .add => match a.r, b.r with
          | some (l1, h1), some (l2, h2) => some (mkI a.k (lin2 Lin.add a.L b.L) (l1 + l2) (h1 + h2))
          | _, _ => some (.any (.i a.k))
        | .sub => match a.r, b.r with
          | some (l1, h1), some (l2, h2) => some (mkI a.k (lin2 Lin.sub a.L b.L) (l1 - h2) (h1 - l2))
          | _, _ => some (.any (.i a.k))
        | .mul | .and | .or | .xor => some (.any (.i a.k))
        | op => cmpI op a b
      | false => none
  | _, _ => none
/-- The lesser (or greater) of two. -/
def aMin2 (mx : Bool) (x y : AV) : Option AV :=
  match getI x, getI y with
  | some a, some b => match a.k == b.k with
    | true => match (match mx with | false => leI b a 1 | true => leI a b 1), (match mx with | false => leI a b 0 | true => leI b a 0) with
      | true, _ => some y
      | false, true => some x
      | false, false => some (.any (.i a.k))
    | false => none
  | _, _ => none
def aMinL (mx : Bool) (x : AV) : List AV → Option AV
  | [] => some x
  | y :: ys => match aMin2 mx x y with
    | some z => aMinL mx z ys
    | none => none
def aBin (op : BinOp) (x y : AV) : Option AV :=
  match x, y with
  | .int k a, .int k' b =>
    match op with
    | .shl => match decide (b < 0) with | true => none | false => some (.int k (shlF k a (min b.toNat k.bits)))
    | .shr => match decide (b < 0) with | true => none | false => some (.int k (shrF a (min b.toNat k.bits)))
    | op => match k == k' with | true => intBin op k a b | false => none
  | .str a, .str b => strBin op a b
  | x, y => aBinAny op x y
def aUn (op : UnOp) (x : AV) : Option AV :=
  match op, x with
  | .neg, .int k n => some (.int k (wrapF k (0 - n)))
  | .xor, .int .u32 n => (bitsF .xor .u32 4294967295 n).map (.int .u32)
  | .not, .bool b => some (.bool !b)
  | .not, .any .b => some (.any .b)
  | .neg, x => (anyInt x).map fun k => .any (.i k)
  | .xor, x => (anyInt x).map fun k => .any (.i k)
  | _, _ => none
/-- x == y, of pointers, slices, maps, functions (one is nil) and truth values. -/
def aEq (k : EK) (x y : AV) : Option Bool :=
  match k, x, y with
  | .bool, .bool a, .bool b => some (a == b)
  | .ptr, .nilp, .nilp => some true
  | .ptr, .nilp, .ptr _ _ => some false
  | .ptr, .ptr _ _, .nilp => some false
  | .ptr, .ptr i o, .ptr j p => match Nat.beq i j with | true => some (Nat.beq o p) | false => none
  | .slice, .nils, .nils => some true
  | .slice, .nils, .sl _ _ _ _ => some false
  | .slice, .sl _ _ _ _, .nils => some false
  | .map, .nilm, .nilm => some true
  | .map, .nilm, .mp _ => some false
  | .map, .mp _, .nilm => some false
  | .func, .nilf, .nilf => some true
  | .func, .nilf, .fn _ _ _ => some false
  | .func, .fn _ _ _, .nilf => some false
  | _, _, _ => none
/-- Two plain cells. -/
def aEq1 (k : PK) (x y : AV) : Option Bool :=
  match k, x, y with
  | .b, .bool a, .bool b => some (a == b)
  | .i, .int j a, .int k b => match j == k with | true => some (a == b) | false => none
  | .i, x, y => match getI x, getI y with
    | some a, some b => match a.k == b.k, leI a b 0 && leI b a 0, leI a b 1 || leI b a 1 with
      | true, true, _ => some true
      | true, false, true => some false
      | _, _, _ => none
    | _, _ => none
  | .s, .str a, .str b => some (a == b)
  | _, _, _ => none
def aEqs : List PK → List AV → List AV → Option Bool
  | [], [], [] => some true
  | k :: ks, a :: x, b :: y => match aEq1 k a b with
    | some true => aEqs ks x y
    | some false => match aEqs ks x y with | some _ => some false | none => none
    | none => none
  | _, _, _ => none

/-! ### Rows of cells -/
def setAt (cs : List AV) (off : Nat) : List AV → List AV
  | [] => cs
  | v :: vs => setAt (cs.set off v) (off + 1) vs
def aFill (cs : List AV) (ev : Opd → AV) : List (Nat × Nat × Opd) → Option (List AV)
  | [] => some cs
  | (off, size, x) :: rest =>
    let vs := (ev x).cells
    match Nat.beq vs.length size, Nat.ble (off + vs.length) cs.length with
    | true, true => aFill (setAt cs off vs) ev rest
    | _, _ => none
/-- n cells from a place on, if all are known. -/
def readCells : List (Option AV) → Nat → Nat → Option (List AV)
  | _, _, 0 => some []
  | [], _, _ + 1 => none
  | c :: cs, 0, n + 1 => match c with
    | none => none
    | some v => (readCells cs 0 n).map (v :: ·)
  | _ :: cs, o + 1, n + 1 => readCells cs o (n + 1)
def setCellsAt : List (Option AV) → Nat → List AV → Option (List (Option AV))
  | cs, _, [] => some cs
  | [], _, _ :: _ => none
  | _ :: cs, 0, v :: vs => match v.one with
    | true => (setCellsAt cs 0 vs).map (some v :: ·)
    | false => none
  | c :: cs, o + 1, v :: vs => (setCellsAt cs o (v :: vs)).map (c :: ·)
def newRow (S : St) (rid : Nat) (cs : List AV) : St := S.put rid (.cells (cs.map some) rid 0 true true true)
def allOne : List AV → Bool
  | [] => true
  | v :: vs => match v.one with | true => allOne vs | false => false
/-- The block that an operation makes may be there already, as it is made. -/
def sameCells : List (Option AV) → List AV → Bool
  | [], [] => true
  | some a :: x, b :: y => match a.same b with | true => sameCells x y | false => false
  | _, _ => false
/-- A row is laid, or lies there already. -/
def layRow (S : St) (rid : Nat) (cs : List AV) : Option St :=
  match S.get rid with
  | none => some (newRow S rid cs)
  | some (.cells ds root 0 true true true) => match Nat.beq root rid, sameCells ds cs with
    | true, true => some S
    | _, _ => none
  | _ => none
def rowAt (S : St) (id off n : Nat) : Option (List AV) :=
  match S.get id with
  | some (.cells cs _ _ _ _ _) => readCells cs off n
  | _ => none
def writeAt (S : St) (id off : Nat) (vs : List AV) : Option St :=
  match S.get id with
  | some (.cells cs root pos true true tail) => (setCellsAt cs off vs).map fun cs' => S.put id (.cells cs' root pos true true tail)
  | _ => none
/-- The elements of a slice or the bytes of a string, as cells. -/
def elems (S : St) (sz : Nat) : AV → Option (Nat × List AV)
  | .nils => some (0, [])
  | .sl id off len _ => (rowAt S id off (len * sz)).map (len, ·)
  | .str l => match Nat.beq sz 1 with
    | true => some (l.length, l.map fun b => .int .u8 (Int.ofNat b))
    | false => none
  | _ => none
def mostCells : Nat := 140737488355328
def aAppend (S : St) (rid sz bytes : Nat) (s x : AV) : Option (AV × St) :=
  match elems S sz x with
  | none => none
  | some (n, new) =>
    match allOne new with
    | false => none
    | true =>
    match s with
    | .nils =>
      match n with
      | 0 => some (.nils, S)
      | n + 1 => match Nat.ble ((n + 1) * bytes) mostCells with
        | true => some (.sl rid 0 (n + 1) (.opn sz), newRow S rid new)
        | false => none
    | .sl id off len cap =>
      match n with
      | 0 => some (.sl id off len cap, S)
      | n + 1 =>
        match S.get id with
        | some (.cells cs root pos wr al tl) =>
          match readCells cs off (len * sz), Nat.ble ((len + (n + 1)) * bytes) mostCells with
          | some old, true =>
            match cap with
            | .known c =>
              match Nat.ble (len + (n + 1)) c with
              | true => match wr, al with
                | true, true => (setCellsAt cs (off + len * sz) new).map fun cs' => (.sl id off (len + (n + 1)) (.known c), S.put id (.cells cs' root pos wr al tl))
                | _, _ => none
              | false => some (.sl rid 0 (len + (n + 1)) (.opn sz), newRow S rid (old ++ new))
            | .opn z =>
              match Nat.beq z sz, Nat.beq (off + len * sz) cs.length, wr, tl with
              | true, true, true, true =>
                some (.sl rid 0 (len + (n + 1)) (.opn sz),
                  (S.put id (.cells cs root pos wr false false)).put rid (.cells ((old ++ new).map some) root (pos + off) true false true))
              | _, _, _, _ => none
          | _, _ => none
        | _ => none
    | _ => none

def partOf (g : Bool) (n off : Nat) (cs : List AV) : Option AV :=
  match g with
  | true => some (.agg ((cs.drop off).take n))
  | false => cs[off]?
def bytesOf : List AV → Option (List Nat)
  | [] => some []
  | .int .u8 (.ofNat n) :: r => match Nat.blt n 256 with
    | true => (bytesOf r).map (n :: ·)
    | false => none
  | _ => none
def ivals (ev : Opd → AV) : List Opd → Option (List (IntKind × Int))
  | [] => some []
  | x :: xs => match ev x with
    | .int k n => (ivals ev xs).map ((k, n) :: ·)
    | _ => none
def foldMin (k : IntKind) (x : Int) : List (IntKind × Int) → AV
  | [] => .int k x
  | (_, y) :: r => foldMin k (match decide (y < x) with | true => y | false => x) r
def foldMax (k : IntKind) (x : Int) : List (IntKind × Int) → AV
  | [] => .int k x
  | (_, y) :: r => foldMax k (match decide (y > x) with | true => y | false => x) r
/-- A key of a plain kind. -/
def keyEq (x y : AV) : Option Bool :=
  match x, y with
  | .int j a, .int k b => match j == k with | true => some (a == b) | false => none
  | .str a, .str b => some (a == b)
  | .bool a, .bool b => some (a == b)
  | _, _ => none
def findE (k : AV) : List (AV × AV × Nat) → Nat → Option (Option (Nat × AV))
  | [], _ => some none
  | (k', v, _) :: es, i => match keyEq k k' with
    | some true => some (some (i, v))
    | some false => findE k es (i + 1)
    | none => none
def keyIs (kk : PK) (k : AV) : Bool :=
  match kk, k with
  | .b, .bool _ => true
  | .i, .int _ _ => true
  | .s, .str _ => true
  | _, _ => false
def mapOf (S : St) : AV → Option (List (AV × AV × Nat))
  | .nilm => some []
  | .mp id => match S.get id with
    | some (.map es _) => some es
    | _ => none
  | _ => none
def setE (k v : AV) : List (AV × AV × Nat) → Nat → List (AV × AV × Nat)
  | [], _ => []
  | (_, _, b) :: es, 0 => (k, v, b) :: es
  | e :: es, i + 1 => e :: setE k v es i
def memN (n : Nat) : List Nat → Bool
  | [] => false
  | m :: r => match Nat.beq n m with | true => true | false => memN n r
def leftE (seen : List Nat) : List (AV × AV × Nat) → List (AV × AV × Nat)
  | [] => []
  | (k, v, b) :: es => match memN b seen with | true => leftE seen es | false => (k, v, b) :: leftE seen es
def findB (n : Nat) : List (AV × AV × Nat) → Option (AV × AV)
  | [] => none
  | (k, v, b) :: es => match Nat.beq b n with | true => some (k, v) | false => findB n es
def noneBelow (last : Nat) : List (AV × AV × Nat) → Bool
  | [] => true
  | (_, _, b) :: es => match Nat.ble last b with | true => noneBelow last es | false => false

def bound (ev : Opd → AV) : Option Opd → Option (Option Int)
  | none => some none
  | some x => match ev x with
    | .int _ n => some (some n)
    | _ => none
/-- The low and the high end, and the greatest one, of a slice. -/
def topOf (len : Nat) (cap : Option Nat) : Option Int → Option (Option Nat)
  | none => some cap
  | some m => match decide (0 ≤ m ∧ m ≤ ((cap.getD len : Nat) : Int)) with | true => some (some m.toNat) | false => none
def hiOf (len : Nat) (m : Option Nat) : Option Int → Option Int → Option Nat
  | none, none => some len
  | none, some _ => none
  | some h, _ => match decide (0 ≤ h ∧ h ≤ ((m.getD len : Nat) : Int)) with | true => some h.toNat | false => none
def loOf (h : Nat) : Option Int → Option Nat
  | none => some 0
  | some l => match decide (0 ≤ l ∧ l ≤ (h : Int)) with | true => some l.toNat | false => none
def ends (len : Nat) (cap : Option Nat) (lo hi mx : Option Int) : Option (Nat × Nat × Option Nat) :=
  match topOf len cap mx with
  | none => none
  | some m => match hiOf len m hi mx with
    | none => none
    | some h => match loOf h lo with
      | none => none
      | some l => some (l, h, m)
def aSlice (sz : Nat) (x : AV) (lo hi mx : Option Int) : Option AV :=
  match x with
  | .nils => match ends 0 (some 0) lo hi mx with
    | some _ => some .nils
    | none => none
  | .sl id off len cap =>
    match cap with
    | .known c => match ends len (some c) lo hi mx with
      | some (l, h, some m) => some (.sl id (match Nat.beq m l with | true => off | false => off + l * sz) (h - l) (.known (m - l)))
      | _ => none
    | .opn z => match ends len none lo hi mx with
      | some (l, h, some m) => some (.sl id (match Nat.beq m l with | true => off | false => off + l * sz) (h - l) (.known (m - l)))
      | some (l, h, none) => match Nat.beq z sz with
        | true => some (.sl id (off + l * sz) (h - l) (.opn z))
        | false => none
      | none => none
  | _ => none
def aSliceS (x : AV) (lo hi : Option Int) : Option AV :=
  match x with
  | .str s => match ends s.length (some s.length) lo hi none with
    | some (l, h, _) => some (.str ((s.take h).drop l))
    | none => none
  | _ => none

def evs (ev : Opd → AV) : List Opd → List AV
  | [] => []
  | x :: xs => ev x :: evs ev xs
theorem evs_eq (ev : Opd → AV) (l : List Opd) : evs ev l = l.map ev := by induction l <;> simp [evs, *]

def repZ (z : List AV) (n : Nat) : List AV := (List.range n).map fun i => z.getD (i % z.length) (.tup [])
/-- What an operation that is no call does. -/
def aop (ci : CI) (ev : Opd → AV) (rid : Nat) (S : St) : Option (AV × St) :=
  match ci with
  | .mov x => some (ev x, S)
  | .pick c a b => match ev c with
    | .bool true => some (ev a, S)
    | .bool false => some (ev b, S)
    | _ => none
  | .alloc z => match S.get rid with
    | none => some (.ptr rid 0, newRow S rid z)
    | some (.cells cs root 0 true true true) => match Nat.beq root rid, sameCells cs z with
      | true, true => some (.ptr rid 0, S)
      | _, _ => none
    | _ => none
  | .box x => some (.ptr rid 0, newRow S rid (ev x).cells)
  | .build z parts => (aFill z ev parts).map fun cs => (.agg cs, S)
  | .buildSl len z parts => match aFill z ev parts with
    | some cs => (layRow S rid cs).map fun S' => (.sl rid 0 len (.known len), S')
    | none => none
  | .load ag n a => match ev a with
    | .ptr id off => match ag with
      | true => (rowAt S id off n).map fun cs => (.agg cs, S)
      | false => match rowAt S id off 1 with
        | some [v] => some (v, S)
        | _ => none
    | _ => none
  | .store n a x => match ev a with
    | .ptr id off => match Nat.beq (ev x).cells.length n with
      | true => (writeAt S id off (ev x).cells).map fun S' => (.tup [], S')
      | false => none
    | _ => none
  | .nilck x => match ev x with
    | .ptr id off => some (.ptr id off, S)
    | .fn (.func f) a b => some (.fn (.func f) a b, S)
    | .ifc t v => some (.ifc t v, S)
    | _ => none
  | .addoff k x => match ev x with
    | .ptr id off => some (.ptr id (off + k), S)
    | _ => none
  | .idx sz x i => match ev x, ev i with
    | .sl id off len _, .int _ n => match decide (0 ≤ n ∧ n < (len : Int)) with
      | true => some (.ptr id (off + n.toNat * sz), S)
      | false => none
    | _, _ => none
  | .idxarr len sz x i => match ev x, ev i with
    | .ptr id off, .int _ n => match decide (0 ≤ n ∧ n < (len : Int)) with
      | true => some (.ptr id (off + n.toNat * sz), S)
      | false => none
    | _, _ => none
  | .fld ag off n x => match ev x with
    | .agg cs => match ag with
      | true => some (.agg ((cs.drop off).take n), S)
      | false => match cs[off]? with
        | some v => some (v, S)
        | none => none
    | _ => none
  | .bin op x y => (aBin op (ev x) (ev y)).map (·, S)
  | .eqq k neg x y => (aEq k (ev x) (ev y)).map fun b => (.bool (match neg with | true => !b | false => b), S)
  | .eqs ks neg x y => match ev x, ev y with
    | .agg a, .agg b => (aEqs ks a b).map fun b => (.bool (match neg with | true => !b | false => b), S)
    | _, _ => none
  | .un op x => (aUn op (ev x)).map (·, S)
  | .conv k x => match ev x with
    | .int _ n => some (.int k (wrapF k n), S)
    | x => match getI x with
      | some a => match a.r with
        | some (lo, hi) => some (mkI k a.L lo hi, S)
        | none => some (.any (.i k), S)
      | none => none
  | .slice sz x lo hi mx => match bound ev lo, bound ev hi, bound ev mx with
    | some l, some h, some m => (aSlice sz (ev x) l h m).map (·, S)
    | _, _, _ => none
  | .slstr x lo hi => match bound ev lo, bound ev hi with
    | some l, some h => (aSliceS (ev x) l h).map (·, S)
    | _, _ => none
  | .append sz bytes _ s x => aAppend S rid sz bytes (ev s) (ev x)
  | .copy sz d s => match ev d with
    | .sl id off len _ => match elems S sz (ev s) with
      | some (n, new) => match Nat.min n len with
        | 0 => some (.int .i64 0, S)
        | m + 1 => match writeAt S id off (new.take ((m + 1) * sz)) with
          | some S' => some (.int .i64 (Int.ofNat (m + 1)), S')
          | none => none
      | none => none
    | .nils => match elems S sz (ev s) with
      | some _ => some (.int .i64 0, S)
      | none => none
    | _ => none
  | .clear z x => match ev x with
    | .nils => some (.tup [], S)
    | .sl id off len _ => match len with
      | 0 => some (.tup [], S)
      | n + 1 => (writeAt S id off (List.replicate (n + 1) z).flatten).map fun S' => (.tup [], S')
    | _ => none
  | .len k x => match k, ev x with
    | .str, .str s => some (.int .i64 (Int.ofNat s.length), S)
    | .sl, .nils => some (.int .i64 0, S)
    | .sl, .sl _ _ n _ => some (.int .i64 (Int.ofNat n), S)
    | .sl, .any .sl => some (.any (.i .i64), S)
    | .str, .any .s => some (.any (.i .i64), S)
    | .m, .nilm => some (.int .i64 0, S)
    | .m, .mp id => match S.get id with
      | some (.map es _) => some (.int .i64 (Int.ofNat es.length), S)
      | _ => none
    | _, _ => none
  | .lenc n => some (.int .i64 (Int.ofNat n), S)
  | .mn x xs => match ev x, ivals ev xs with
    | .int k n, some r => some (foldMin k n r, S)
    | y, _ => (aMinL false y (evs ev xs)).map (·, S)
  | .mx x xs => match ev x, ivals ev xs with
    | .int k n, some r => some (foldMax k n r, S)
    | y, _ => (aMinL true y (evs ev xs)).map (·, S)
  | .mkfn f first caps => some (.fn f (evs ev first) (evs ev caps), S)
  | .mkmap => some (.mp rid, S.put rid (.map [] 0))
  | .lookup kk ok z m k => match keyIs kk (ev k), mapOf S (ev m) with
    | true, some es => match findE (ev k) es 0 with
      | none => none
      | some none => some (match ok with | true => .tup [z, .bool false] | false => z, S)
      | some (some (_, v)) => some (match ok with | true => .tup [v, .bool true] | false => v, S)
    | _, _ => none
  | .mapset kk m k v => match keyIs kk (ev k), ev m with
    | true, .mp id => match S.get id with
      | some (.map es clock) => match findE (ev k) es 0 with
        | none => none
        | some none => some (.tup [], S.put id (.map (es ++ [(ev k, ev v, clock)]) (clock + 1)))
        | some (some (i, _)) => some (.tup [], S.put id (.map (setE (ev k) (ev v) es i) clock))
      | _ => none
    | _, _ => none
  | .del kk m k => match keyIs kk (ev k), ev m with
    | true, .nilm => some (.tup [], S)
    | true, .mp id => match S.get id with
      | some (.map es clock) => match findE (ev k) es 0 with
        | none => none
        | some none => some (.tup [], S)
        | some (some (i, _)) => some (.tup [], S.put id (.map (es.eraseIdx i) clock))
      | _ => none
    | _, _ => none
  | .range x => match ev x with
    | .nilm => some (.ptr rid 0, S.put rid (.iter none 0 [] 0))
    | .mp id => match S.get id with
      | some (.map _ clock) => some (.ptr rid 0, S.put rid (.iter (some id) clock [] clock))
      | _ => none
    | _ => none
  | .next it => match ev it with
    | .ptr id 0 => match S.get id with
      | some (.iter none _ _ _) => some (.tup [.bool false], S)
      | some (.iter (some m) since seen last) => match S.get m with
        | some (.map es clock) =>
          match (match seen, es with | [], _ => true | _, [] => true | _, _ => !noneBelow last es : Bool) with
          | false => none
          | true => match leftE seen es with
            | [] => some (.tup [.bool false], S)
            | [(k, v, b)] => match Nat.blt b since with
              | true => some (.tup [.bool true, k, v], S.put id (.iter (some m) since (seen ++ [b]) clock))
              | false => none
            | _ => none
        | _ => none
      | _ => none
    | _ => none
  | .entry it => match ev it with
    | .ptr id 0 => match S.get id with
      | some (.iter (some m) _ seen stepped) => match S.get m, seen.getLast? with
        | some (.map es clock), some stamp => match Nat.beq clock stepped with
          | true => match findB stamp es with
            | some (k, v) => some (.tup [k, v], S)
            | none => none
          | false => none
        | _, _ => none
      | _ => none
    | _ => none
  | .ext x i => match ev x with
    | .tup vs => match vs[i]? with
      | some v => some (v, S)
      | none => none
    | _ => none
  | .ifc t x => some (.ifc t (ev x), S)
  | .call _ _ => none
  | .idxv ag len n x i => match ev x, ev i with
    | .agg cs, .int _ j => match decide (0 ≤ j ∧ j < (len : Int)) with
      | true => match partOf ag n (j.toNat * n) cs with
        | some v => some (v, S)
        | none => none
      | false => none
    | _, _ => none
  | .idxs x i => match ev x, ev i with
    | .str l, .int _ j => match decide (0 ≤ j) with
      | true => match l[j.toNat]? with
        | some b => some (.int .u8 (Int.ofNat b), S)
        | none => none
      | false => none
    | _, _ => none
  | .b2s x => match ev x with
    | .nils => some (.str [], S)
    | .sl id off len _ => match rowAt S id off len with
      | some l => match bytesOf l with
        | some r => some (.str r, S)
        | none => none
      | none => none
    | _ => none
  | .strid x => match ev x with
    | .str l => some (.str l, S)
    | _ => none
  | .s2b x => match ev x with
    | .str l => some (.sl rid 0 l.length (.opn 1), newRow S rid (l.map fun b => .int .u8 (Int.ofNat b)))
    | _ => none
  | .mkslice sz bytes z len cap => match ev len, ev cap with
    | .int _ l, .int _ c => match decide (0 ≤ l ∧ l ≤ c ∧ c * (bytes : Int) ≤ (mostCells : Int)) with
      | true => some (.sl rid 0 l.toNat (.known c.toNat), newRow S rid (repZ z (c.toNat * sz)))
      | false => none
    | _, _ => none
  | .slarr n sz x lo hi mx => match bound ev lo, bound ev hi, bound ev mx with
    | some l, some h, some m => match ev x with
      | .ptr id off => match ends n (some n) l h m with
        | some (ll, hh, some mm) => some (.sl id (match Nat.beq mm ll with | true => off | false => off + ll * sz) (hh - ll) (.known (mm - ll)), S)
        | _ => none
      | _ => none
    | _, _, _ => none
  | .bad => none
end Go.Eng
