/-
  Compiled code, its making, its running.
-/
import Derived.Test.YtiemcnndfhbidaaGreatDoorE16
namespace Go.Eng

inductive CRes where
  | tmp (t : Nat)
  | cell (a : Nat) (ag : Bool) (n : Nat)
structure CFun where
  n : Nat
  res : List CRes
  body : CC

/-! ### Making -/
def compOp (P : Program) (all : Array Oper) (o : Oper) : Option COp :=
  match o.guard with
  | none => some ⟨o.dst, none, false, (comp P o.op).getD .bad, []⟩
  | some (j, b) => match (all[j]?).bind (·.dst) with
    | some d => some ⟨o.dst, some (d, b), false, (comp P o.op).getD .bad, []⟩
    | none => none
def compOps (P : Program) (all : Array Oper) : List Oper → Option (List COp)
  | [] => some []
  | o :: os => match compOp P all o, compOps P all os with
    | some c, some cs => some (c :: cs)
    | _, _ => none

/-- Which must be done before. -/
def edgesOf : List Edge → List Nat
  | [] => []
  | e :: es => match Region.binds .any e with | true => e.on :: edgesOf es | false => edgesOf es
def maskOf (acc : List Nat) : List Nat → Nat → Nat
  | [], m => m
  | e :: es, m => maskOf acc es (Nat.lor (Nat.lor m (2 ^ e)) (acc.getD e 0))
/-- Closed masks, in order. -/
def masks : List (List Nat) → List Nat → List Nat
  | [], acc => acc
  | es :: r, acc => masks r (acc ++ [maskOf acc es 0])
def edgesLt : List (List Nat) → Nat → Bool
  | [], _ => true
  | es :: r, i => es.all (Nat.blt · i) && edgesLt r (i + 1)

def Opd.tmps : Opd → List Nat
  | .t n => [n]
  | .c _ => []
def oTmps : Option Opd → List Nat
  | none => []
  | some x => x.tmps
def lTmps : List Opd → List Nat
  | [] => []
  | x :: xs => x.tmps ++ lTmps xs
def pTmps : List (Nat × Nat × Opd) → List Nat
  | [] => []
  | (_, _, x) :: xs => x.tmps ++ pTmps xs
/-- The slots that an operation looks at. -/
def CI.tmps : CI → List Nat
  | .mov x | .box x | .load _ _ x | .nilck x | .addoff _ x | .fld _ _ _ x | .un _ x | .conv _ x | .clear _ x | .len _ x | .range x | .next x | .entry x | .ext x _ | .ifc _ x | .b2s x | .strid x | .s2b x => x.tmps
  | .pick c a b => c.tmps ++ (a.tmps ++ b.tmps)
  | .alloc _ | .mkmap | .lenc _ | .bad => []
  | .build _ ps | .buildSl _ _ ps => pTmps ps
  | .mkslice _ _ _ a x | .store _ a x | .idx _ a x | .idxarr _ _ a x | .bin _ a x | .eqq _ _ a x | .eqs _ _ a x | .append _ _ _ a x | .copy _ a x | .lookup _ _ _ a x | .del _ a x | .idxv _ _ _ a x | .idxs a x => a.tmps ++ x.tmps
  | .slice _ x lo hi m | .slarr _ _ x lo hi m => x.tmps ++ (oTmps lo ++ (oTmps hi ++ oTmps m))
  | .slstr x lo hi => x.tmps ++ (oTmps lo ++ oTmps hi)
  | .mn x xs | .mx x xs => x.tmps ++ lTmps xs
  | .mkfn _ a b => lTmps a ++ lTmps b
  | .mapset _ m k v => m.tmps ++ (k.tmps ++ v.tmps)
  | .call f xs => f.tmps ++ lTmps xs
def COp.looks (o : COp) : List Nat :=
  match o.guard with
  | none => o.ci.tmps
  | some (d, _) => d :: o.ci.tmps
def dstIs (o : COp) (t : Nat) : Bool :=
  match o.dst with
  | some d => Nat.beq d t
  | none => false
/-- Is this no reader of what that one leaves, or is it one at a sure time? -/
def readsOk (ms : List Nat) (i : Nat) (ts : List Nat) (j : Nat) (o : COp) : Bool :=
  Nat.beq i j || Nat.testBit (ms.getD i 0) j || Nat.testBit (ms.getD j 0) i || ts.all (fun t => !dstIs o t)
def isCall : CI → Bool
  | .call _ _ => true
  | _ => false
def isAlloc : CI → Bool
  | .alloc _ => true
  | .buildSl .. => true
  | _ => false
/-- May a call and this one change places, if a look at memory says so? -/
def COp.easy (o : COp) : Bool :=
  match o.ci with
  | .load .. | .len .. | .lookup .. | .b2s _ => true
  | .alloc _ => o.pre
  | .buildSl .. => o.pre
  | _ => false
def memP (i j : Nat) : List (Nat × Nat) → Bool
  | [] => false
  | (a, b) :: r => (Nat.beq a i && Nat.beq b j) || memP i j r
/-- The two operations i < j: in order, or free of each other, or to be looked at. -/
def pairOk (ms : List Nat) (ps cs : List (Nat × Nat)) (i : Nat) (a : COp) (j : Nat) (b : COp) : Bool :=
  Nat.testBit (ms.getD j 0) i || !a.ci.touch || !b.ci.touch ||
    (match a.ci.wild, b.ci.wild with
     | false, false => memP i j ps
     | true, false => isCall a.ci && b.easy && memP i j cs
     | false, true => isCall b.ci && a.easy && memP j i cs
     | true, true => false)
def sameDst (a b : COp) : Bool :=
  match a.dst, b.dst with
  | some d, some e => Nat.beq d e
  | _, _ => false
def allFrom (f : Nat → COp → Bool) : List COp → Nat → Bool
  | [], _ => true
  | o :: os, i => f i o && allFrom f os (i + 1)
def okDraw (es : List (List Nat)) (ops : List COp) (ps cs : List (Nat × Nat)) : Bool :=
  let ms := masks es []
  Nat.beq es.length ops.length && (edgesLt es 0 && allFrom (fun i a => (match a.pre with | true => isAlloc a.ci | false => true) &&
    allFrom (fun j b => readsOk ms i a.looks j b && (Nat.ble j i || (!sameDst a b && pairOk ms ps cs i a j b))) ops 0) ops 0)

/-- The pairs to be looked at. -/
def findPairs (ms : List Nat) (ops : List COp) (call : Bool) : List (Nat × Nat) :=
  let z := ops.zipIdx
  z.flatMap fun (a, i) => z.filterMap fun (b, j) =>
    match Nat.blt i j && !Nat.testBit (ms.getD j 0) i && a.ci.touch && b.ci.touch with
    | false => none
    | true => match isCall a.ci, isCall b.ci, call with
      | false, false, false => some (i, j)
      | true, false, true => some (i, j)
      | false, true, true => some (j, i)
      | _, _, _ => none
/-- An operand as it was ahead of the region, through moves. -/
def earlyOpd (ops : List COp) : Nat → Opd → Opd
  | 0, x => x
  | _, .c v => .c v
  | f + 1, .t n => match ops.find? fun o => dstIs o n with
    | some o => match o.guard, o.ci with
      | none, .mov y => earlyOpd ops f y
      | _, _ => .t n
    | none => .t n
def earlyOf (ops : List COp) : CI → List (Nat × Nat × Opd)
  | .buildSl _ _ ps => ps.map fun (a, b, x) => (a, b, earlyOpd ops 4 x)
  | _ => []
def setPre (ms : List Nat) (ops : List COp) : List COp :=
  ops.zipIdx.map fun (a, i) => { a with early := earlyOf ops a.ci, pre := isAlloc a.ci && ops.zipIdx.any fun (b, j) => isCall b.ci && !Nat.testBit (ms.getD j 0) i && !Nat.testBit (ms.getD i 0) j }
/-- Where the operations end that are not ordered behind all earlier ones. -/
def frontLen (ms : List Nat) : Nat → Nat
  | 0 => 0
  | j + 1 => match Nat.beq (ms.getD j 0) (2 ^ j - 1) with
    | true => frontLen ms j
    | false => j + 1
def okTail (ms : List Nat) (m n : Nat) : Bool :=
  Nat.ble m n && (List.range' m (n - m)).all (fun j => Nat.beq (ms.getD j 0) (2 ^ j - 1))
/-- An operation as it was ahead of the region's look. -/
def plainOp (o : COp) : COp := { o with pre := false, early := [] }
def compC (P : Program) : Code → Option CC
  | .skip => some .skip
  | .region _ ops false => (compOps P ops ops.toList).map (.region ops.size)
  | .region _ ops true =>
    let es := ops.toList.map fun o => edgesOf o.after.toList
    let ms := masks es []
    match compOps P ops ops.toList with
    | some l =>
      let l := setPre ms l
      let ps := findPairs ms l false
      let cs := findPairs ms l true
      match okDraw es l ps cs, okTail ms (frontLen ms l.length) l.length with
      | true, true => some (.drawn ops.size (frontLen ms l.length) l ps cs)
      | _, _ => none
    | none => none
  | .seq a b => match compC P a, compC P b with
    | some x, some y => some (.seq x y)
    | _, _ => none
  | .cond c a b => match cOpd c, compC P a, compC P b with
    | some t, some x, some y => some (.cond t x y)
    | _, _, _ => none
  | .block id c => (compC P c).map (.block id)
  | .loop c => (compC P c).map .loop
  | .exit id => some (.exit id)
  | .ret => some .ret
  | .rangeFunc f ps a b => match cOpd f, compC P a, compC P b with
    | some x, some ca, some cb => some (.rfn x ps.toList ca cb)
    | _, _, _ => none
  | _ => none
def compRes (P : Program) : List ResultVar → Option (List CRes)
  | [] => some []
  | .tmp t :: r => (compRes P r).map (.tmp t :: ·)
  | .cell a t :: r => match aggT P t, sizeT P t, compRes P r with
    | some g, some n, some l => some (.cell a g n :: l)
    | _, _, _ => none
def compFn (P : Program) (f : Func) : Option CFun :=
  match f.body with
  | some c => match compC P c, compRes P f.results.toList with
    | some x, some r => some ⟨f.ntmps, r, x⟩
    | _, _ => none
  | none => none

/-! ### Running -/
inductive AE where
  | normal
  | exit (id : Nat)
  | ret
structure Env where
  tab : Nat → Option CFun
  mnz : Nat
  /-- What is known of a call without running it. -/
  con : Nat → List AV → St → Option (AV × St) := fun _ _ _ => none
  /-- At whose calls the slices handed over come to be nobody else's. -/
  solo : Nat → Bool := fun _ => false
  /-- Functions that are gone through, and whose ends are then taken as one. -/
  mrg : Nat → Bool := fun _ => false
def fillT : List AV → Nat → Trie AV → Trie AV
  | [], _, t => t
  | v :: vs, i, t => fillT vs (i + 1) (t.set i (some v))
def aframe (n : Nat) (args : List AV) : AFr := ⟨n, fillT args 0 .nil, [], false⟩
def loadAV (ag : Bool) (n id off : Nat) (S : St) : Option AV :=
  match ag with
  | true => (rowAt S id off n).map .agg
  | false => match rowAt S id off 1 with
    | some [v] => some v
    | _ => none
def resOf (fr : AFr) (S : St) : CRes → Option AV
  | .tmp t => some (fr.get t)
  | .cell a ag n => match fr.get a with
    | .ptr id off => loadAV ag n id off S
    | _ => none
def ressOf (fr : AFr) (S : St) : List CRes → Option (List AV)
  | [] => some []
  | r :: rs => match resOf fr S r, ressOf fr S rs with
    | some v, some vs => some (v :: vs)
    | _, _ => none
def tupOf : List AV → AV
  | [v] => v
  | vs => .tup vs
def amnz (args : List AV) (S : St) : Option (AV × St) :=
  match args with
  | [.int .i64 (.ofNat n)] => match Nat.ble n 281474976710656 with
    | true => some (.sl S.next 0 n (.opn 1), { h := S.h.set S.next (some (.cells (List.replicate n none) S.next 0 true true true)), next := S.next + 1 })
    | false => none
  | _ => none
def Runner := CC → AFr → St → Option (AE × AFr × St)
/-- The marks are come to. -/
def leave : List Nat → St → Option St
  | [], S => some S
  | id :: ds, S => match S.get id with
    | some (.obj (.deferred (some []))) => leave ds (S.put id .gone)
    | _ => none
def putL (n : Nat) : List Nat → List AV → Trie AV → Option (Trie AV)
  | [], [], m => some m
  | t :: ts, v :: vs, m => match Nat.blt t n with
    | true => putL n ts vs (m.set t (some v))
    | false => none
  | _, _, _ => none
def gcall0 (E : Env) (run : Runner) (g : Nat) (args : List AV) (S : St) : Option (AV × St) :=
  match E.con g args S with
  | some r => some r
  | none => match E.tab g with
    | none => none
    | some cf => match Nat.ble args.length cf.n with
      | false => none
      | true => match run cf.body (aframe cf.n args) S with
        | none => none
        | some (.exit _, _, _) => none
        | some (_, fr, S') => match leave fr.d S' with
          | none => none
          | some S2 => (ressOf fr S2 cf.res).map fun vs => (tupOf vs, S2)
def gcall (E : Env) (run : Runner) (g : Nat) (args : List AV) (S : St) : Option (AV × St) := gcall0 E run g args (soloIf (E.solo g) args S)
/-- A round of a range over a function. -/
def ycall (run : Runner) (l : Nat) (args : List AV) (S : St) : Option (AV × St) :=
  match S.get l with
  | some (.loop false n m ps a b) => match putL n ps args m with
    | none => none
    | some m1 => match run a ⟨n, m1, [], true⟩ S with
      | some (.normal, fr1, S1) => match S1.get l with
        | some (.loop false n1 m1 ps1 a1 b1) => match run b fr1 (S1.put l (.loop true n1 m1 ps1 a1 b1)) with
          | some (.normal, _, S2) => match S2.get l with
            | some (.loop true n2 m2 ps2 a2 b2) => some (.bool true, S2.put l (.loop false n2 m2 ps2 a2 b2))
            | _ => none
          | _ => none
        | _ => none
      | _ => none
  | _ => none
def acall (E : Env) (run : Runner) (fv : AV) (args : List AV) (S : St) : Option (AV × St) :=
  match fv with
  | .fn (.func g) first caps =>
    match Nat.beq g E.mnz, first, caps with
    | true, [], [] => amnz args S
    | true, _, _ => none
    | false, first, caps => gcall E run g (first ++ args ++ caps) S
  | .yld l => ycall run l args S
  | _ => none
/-- The record and the block of a range over a function are laid. -/
def rfnSt (fr : AFr) (S : St) (ps : List Nat) (a b : CC) : St :=
  { h := (S.h.set S.next (some (.obj (.deferred (some []))))).set (S.next + 1) (some (.loop false fr.n fr.m ps a b)), next := S.next + 2 }
def wants (fr : AFr) : Option (Nat × Bool) → Option Bool
  | none => some true
  | some (d, b) => match fr.get d with
    | .bool c => match b with | true => some c | false => some !c
    | .any _ => none
    | _ => some false
def wantsNo (fr : AFr) (g : Option (Nat × Bool)) : Bool :=
  match wants fr g with
  | some false => true
  | _ => false
/-- An operation that is there already where it is asked for. -/
def stay (ci : CI) (ev : Opd → AV) (rid : Nat) (S : St) : Option AV :=
  match ci with
  | .alloc z => match S.get rid with
    | some (.cells cs root 0 true true true) => match Nat.beq root rid, sameCells cs z with
      | true, true => some (.ptr rid 0)
      | _, _ => none
    | _ => none
  | .buildSl len z parts => match aFill z ev parts, S.get rid with
    | some cs, some (.cells ds root 0 true true true) => match Nat.beq root rid, sameCells ds cs with
      | true, true => some (.sl rid 0 len (.known len))
      | _, _ => none
    | _, _ => none
  | .load .. | .len .. | .lookup .. | .b2s _ => (aop ci ev rid S).map (·.1)
  | _ => none
def doOp (E : Env) (run : Runner) (o : COp) (ev : Opd → AV) (rid : Nat) (S : St) : Option (AV × St) :=
  match o.pre, o.ci with
  | true, ci => (stay ci ev rid S).map (·, S)
  | false, .call f xs => acall E run (ev f) (evs ev xs) S
  | false, ci => aop ci ev rid S
def runOps (E : Env) (run : Runner) : List COp → Nat → AFr → St → Option (AFr × St)
  | [], _, fr, S => some (fr, S)
  | o :: os, rid, fr, S =>
    match wants fr o.guard with
    | none => none
    | some false => match fr.put o.dst (.tup []) with
      | some fr' => runOps E run os (rid + 1) fr' S
      | none => none
    | some true => match doOp E run o fr.ev rid S with
      | some (v, S') => match fr.put o.dst v with
        | some fr' => runOps E run os (rid + 1) fr' S'
        | none => none
      | none => none
structure TrE where
  o : COp
  rid : Nat
  fr : AFr
  S : St
  T : St
  v : AV
def runDraw (E : Env) (run : Runner) : List COp → Nat → AFr → St → List TrE → Option (AFr × St × List TrE)
  | [], _, fr, S, tr => some (fr, S, tr)
  | o :: os, rid, fr, S, tr =>
    match wants fr o.guard with
    | none => none
    | some false => match fr.put o.dst (.tup []) with
      | some fr' => runDraw E run os (rid + 1) fr' S (tr ++ [⟨o, rid, fr, S, S, .tup []⟩])
      | none => none
    | some true => match doOp E run o fr.ev rid S with
      | some (v, S') => match fr.put o.dst v with
        | some fr' => runDraw E run os (rid + 1) fr' S' (tr ++ [⟨o, rid, fr, S, S', v⟩])
        | none => none
      | none => none
def disj (a b : List Nat) : Bool := a.all fun i => !memN i b
def lookP (tr : List TrE) : List (Nat × Nat) → Bool
  | [] => true
  | (i, j) :: r => match tr[i]?, tr[j]? with
    | some a, some b =>
      (wantsNo a.fr a.o.guard || wantsNo b.fr b.o.guard ||
        (disj (a.o.ci.wfoot a.fr.ev a.rid) (b.o.ci.foot b.fr.ev b.rid) && disj (b.o.ci.wfoot b.fr.ev b.rid) (a.o.ci.foot a.fr.ev a.rid))) && lookP tr r
    | _, _ => false
def sameL : List AV → List AV → Bool
  | [], [] => true
  | a :: x, b :: y => match a.same b with | true => sameL x y | false => false
  | _, _ => false
def sameV : AV → AV → Bool
  | .agg x, .agg y => sameL x y
  | a, b => a.same b
def lookC (tr : List TrE) : List (Nat × Nat) → Bool
  | [] => true
  | (i, j) :: r => match tr[i]?, tr[j]? with
    | some a, some b =>
      (wantsNo a.fr a.o.guard || wantsNo b.fr b.o.guard ||
        (match stay b.o.ci b.fr.ev b.rid a.S, stay b.o.ci b.fr.ev b.rid a.T with
         | some u, some v => sameV u v
         | _, _ => false)) && lookC tr r
    | _, _ => false
/-- The new blocks that lie there before. -/
def preAll (ev : Opd → AV) : List COp → Nat → St → St
  | [], _, S => S
  | o :: os, rid, S => match o.pre, o.ci with
    | true, .alloc z => preAll ev os (rid + 1) (newRow S rid z)
    | true, .buildSl _ z _ => match aFill z ev o.early with
      | some cs => preAll ev os (rid + 1) (newRow S rid cs)
      | none => preAll ev os (rid + 1) S
    | _, _ => preAll ev os (rid + 1) S
def body (E : Env) (run : Runner) : Runner := fun c fr S =>
  match c with
  | .skip => some (.normal, fr, S)
  | .region n ops => match runOps E run ops S.next fr { h := S.h, next := S.next + n } with
    | some (fr', S') => some (.normal, fr', S')
    | none => none
  | .drawn n _ ops ps cs => match runDraw E run ops S.next fr (preAll fr.ev ops S.next { h := S.h, next := S.next + n }) [] with
    | some (fr', S', tr) => match lookP tr ps && lookC tr cs with
      | true => some (.normal, fr', S')
      | false => none
    | none => none
  | .seq a b => match run a fr S with
    | some (.normal, fr', S') => run b fr' S'
    | r => r
  | .cond c x y => match fr.ev c with
    | .bool true => run x fr S
    | .bool false => run y fr S
    | _ => none
  | .block id c => match run c fr S with
    | some (.exit j, fr', S') => match Nat.beq j id with
      | true => some (.normal, fr', S')
      | false => some (.exit j, fr', S')
    | r => r
  | .loop c => match run c fr S with
    | some (.normal, fr', S') => run (.loop c) fr' S'
    | r => r
  | .exit id => some (.exit id, fr, S)
  | .ret => some (.ret, fr, S)
  | .rfn x ps a b => match fr.rd, fr.ev x with
    | false, .fn (.func g) first caps => match Nat.beq g E.mnz with
      | true => none
      | false => match gcall E run g (first ++ [.yld (S.next + 1)] ++ caps) (rfnSt fr S ps a b) with
        | some (_, S2) => match S2.get (S.next + 1) with
          | some (.loop false _ _ _ _ _) => some (.normal, { fr with d := S.next :: fr.d }, S2.put (S.next + 1) .gone)
          | _ => none
        | none => none
    | _, _ => none
def exec (E : Env) : Nat → Runner
  | 0 => fun _ _ _ => none
  | f + 1 => body E (exec E f)
end Go.Eng
