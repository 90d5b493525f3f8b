/-
  An evaluator of abstract states, for concrete inputs: blocks go by names 0, 1, ..; every step is checked. Written for the kernel: recursors, few constructors, what
  hangs on the text alone is a closed term (and so reduced once).
-/
import Derived.Test.YtkdhgablioljnaaAhOwn
set_option linter.unusedSimpArgs false
set_option linter.unusedVariables false
set_option linter.unusedSectionVars false
set_option linter.unusedSimpArgs false
set_option linter.unusedVariables false
set_option linter.unusedSectionVars false
namespace Go.AH
open Go
noncomputable section

inductive Tr (α : Type) where
  | nil
  | leaf (a : α)
  | node (l r : Tr α)
def Tr.get {α : Type} (t : Tr α) : Nat → Option α :=
  Tr.rec (motive := fun _ => Nat → Option α) (fun _ => none) (fun a k => Nat.rec (motive := fun _ => Option α) (some a) (fun _ _ => none) k) (fun _ _ gl gr k => Nat.rec (motive := fun _ => Option α) (gl (Nat.div k 2)) (fun _ _ => gr (Nat.div k 2)) (Nat.mod k 2)) t
def Tr.put {α : Type} (d : Nat) : Tr α → Nat → α → Tr α :=
  Nat.rec (motive := fun _ => Tr α → Nat → α → Tr α) (fun _ _ a => .leaf a)
    (fun _ ih t k a => Tr.rec (motive := fun _ => Tr α)
      (Nat.rec (motive := fun _ => Tr α) (.node (ih .nil (Nat.div k 2) a) .nil) (fun _ _ => .node .nil (ih .nil (Nat.div k 2) a)) (Nat.mod k 2))
      (fun _ => Nat.rec (motive := fun _ => Tr α) (.node (ih .nil (Nat.div k 2) a) .nil) (fun _ _ => .node .nil (ih .nil (Nat.div k 2) a)) (Nat.mod k 2))
      (fun l r _ _ => Nat.rec (motive := fun _ => Tr α) (.node (ih l (Nat.div k 2) a) r) (fun _ _ => .node l (ih r (Nat.div k 2) a)) (Nat.mod k 2)) t) d
/-- The value in a slot; .undef where there is none. -/
def Tr.getU (t : Tr AV) : Nat → AV :=
  Tr.rec (motive := fun _ => Nat → AV) (fun _ => .undef) (fun a k => Nat.rec (motive := fun _ => AV) a (fun _ _ => .undef) k) (fun _ _ gl gr k => Nat.rec (motive := fun _ => AV) (gl (Nat.div k 2)) (fun _ _ => gr (Nat.div k 2)) (Nat.mod k 2)) t
/-- Cells from a place on. -/
def Tr.take (t : Tr AV) (n : Nat) : Nat → List AV := Nat.rec (motive := fun _ => Nat → List AV) (fun _ => []) (fun _ ih off => t.getU off :: ih (Nat.add off 1)) n
def Tr.putL (d : Nat) (l : List AV) : Tr AV → Nat → Tr AV := List.rec (motive := fun _ => Tr AV → Nat → Tr AV) (fun t _ => t) (fun a _ ih t off => ih (t.put d off a) (Nat.add off 1)) l

inductive XC where
  | cells (n : Nat) (t : Tr AV)
  | map (sh : KShape) (es : List (AV × AV))
  | sit (s : List UInt8) (pos : Nat)
  | loop (ps : Array Nat) (as b : Code) (N : Nat) (t : Tr AV) (pend : Option Code)
  | gone

-- the names that a value bears are less than n
mutual
def AV.bd (n : Nat) : AV → Bool
  | .sl _ cs => AV.bdL n cs
  | .osl b _ _ _ => Nat.blt b n
  | .ptr b _ => Nat.blt b n
  | .fptr cs => AV.bdL n cs
  | .map b => Nat.blt b n
  | .fn f fa ca => (match f with | .func _ => true | .yield l => Nat.blt l n | _ => false) && AV.bdL n fa && AV.bdL n ca
  | .iface _ v => AV.bd n v
  | .agg cs => AV.bdL n cs
  | .tup vs => AV.bdL n vs
  | _ => true
def AV.bdL (n : Nat) : List AV → Bool
  | [] => true
  | a :: as => AV.bd n a && AV.bdL n as
end
def AV.bdE (n : Nat) : List (AV × AV) → Bool
  | [] => true
  | e :: es => AV.bd n e.1 && AV.bd n e.2 && AV.bdE n es

structure XH where
  m : Tr XC
  n : Nat
  lo : Nat
  sh : List Nat
abbrev R := Option (AV × XH)
abbrev KV := AV → XH → R
abbrev Fr := Tr AV
abbrev KC := Exit → Fr → XH → R
/-- Go on if it is so. -/
def chk (b : Bool) (r : R) : R := Bool.rec (motive := fun _ => R) none r b
def XH.get (h : XH) (b : Nat) : XC := Bool.rec (motive := fun _ => XC) .gone ((h.m.get b).getD .gone) (Nat.blt b h.n)
def XH.new (h : XH) (c : XC) (K : Nat → XH → R) : R := chk (Nat.blt h.n 16383) (K h.n { m := h.m.put 14 h.n c, n := Nat.add h.n 1, lo := h.lo, sh := h.sh })
/-- A block that may begin elsewhere: what an append at an offset leaves. -/
def XH.newS (h : XH) (c : XC) (K : Nat → XH → R) : R := chk (Nat.blt h.n 16383) (K h.n { m := h.m.put 14 h.n c, n := Nat.add h.n 1, lo := h.lo, sh := h.n :: h.sh })
def XH.set (h : XH) (b : Nat) (c : XC) (K : XH → R) : R := chk (Nat.ble h.lo b && Nat.blt b h.n) (K { m := h.m.put 14 b c, n := h.n, lo := h.lo, sh := h.sh })
def XH.cell (h : XH) (b : Nat) (K : Nat → Tr AV → R) : R := match h.get b with | .cells n t => K n t | _ => none
/-- The heap of the layer, with names for blocks. -/
def XH.a (h : XH) : AHeap := fun b => match h.get b with
  | .cells n t => some (.cells (t.take n 0))
  | .map sh es => some (.map sh es)
  | .sit s pos => some (.sit s pos)
  | _ => none
def Tr.at (t : Fr) : AF := t.getU
def ofL (l : List AV) : Tr AV := Tr.putL 11 l .nil 0

def keyEq1 : AV → AV → Bool
  | .bool a, .bool b => a == b
  | .int k a, .int k' b => decide (k = k') && decide (a = b)
  | .str a, .str b => decide (a = b)
  | _, _ => false
def keyEqL : List AV → List AV → Bool
  | [], [] => true
  | a :: as, b :: bs => keyEq1 a b && keyEqL as bs
  | _, _ => false
def keyEq : AV → AV → Bool
  | .agg as, .agg bs => keyEqL as bs
  | a, b => keyEq1 a b
def xget : List (AV × AV) → AV → Option AV
  | [], _ => none
  | e :: es, k => match keyEq e.1 k with | true => some e.2 | false => xget es k
def xset : List (AV × AV) → AV → AV → List (AV × AV)
  | [], k, v => [(k, v)]
  | e :: es, k, v => match keyEq e.1 k with | true => (k, v) :: es | false => e :: xset es k v

def xmapPut (P : Program) (t : AF) (h : XH) (ty : TypeId) (m k x : Operand) (K : KV) : R := match P.underlying ty with
  | some (.map kt _) => match evalA t m with
    | .map b => match h.get b with
      | .map sh es => chk (decide (shapeT P kt = some sh) && sh.ok (evalA t k) && (evalA t k).bd h.n && (evalA t x).bd h.n) (h.set b (.map sh (xset es (evalA t k) (evalA t x))) (K .undef))
      | _ => none
    | _ => none
  | _ => none

def xnew (h : XH) (cs : List AV) (mk : Nat → AV) (K : KV) : R := chk (Nat.blt cs.length 2048 && AV.bdL h.n cs) (h.new (.cells cs.length (ofL cs)) fun b => K (mk b))

def notSame (b : Nat) (x : AV) : Bool := match x with | .osl b2 _ _ _ => !(Nat.beq b2 b) | _ => true
def xappend (P : Program) (tr : Bool) (h : XH) (ts tx : TypeId) (s x : AV) (K : KV) : R := match elemT P ts with
  | some (_, es, _, _) => chk (rowT P tx) (match appXs h.a es x with
    | some (k, xs) => match s with
      | .nilsl => match Nat.beq k 0 with
        | true => K .nilsl h
        | false => chk (Nat.blt k (2 ^ 30)) (xnew h xs (fun b => .osl b 0 k es) K)
      | .osl b off n es' => h.cell b fun m t => match Nat.beq off 0 && !h.sh.contains b with
        | true => chk (Nat.beq off 0 && Nat.beq es' es && (Nat.beq m (Nat.mul n es) || (tr && Nat.ble (Nat.mul n es) m && notSame b x)) && Nat.blt (Nat.add (Nat.mul n es) xs.length) 2048 && Nat.blt (Nat.add n k) (2 ^ 30) && AV.bdL h.n xs)
          (h.set b .gone fun h1 => h1.new (.cells (Nat.add (Nat.mul n es) xs.length) (t.putL 11 xs (Nat.mul n es))) fun b' => K (.osl b' 0 (Nat.add n k) es))
        | false => chk ((tr || Nat.beq (Nat.add off (Nat.mul n es)) m) && Nat.beq es' es && Nat.ble (Nat.add off (Nat.mul n es)) m && notSame b x && Nat.blt (Nat.add (Nat.mul n es) xs.length) 2048 && Nat.blt (Nat.add n k) (2 ^ 30) && AV.bdL h.n xs)
          (h.set b .gone fun h1 => h1.newS (.cells (t.take (Nat.mul n es) off ++ xs).length (ofL (t.take (Nat.mul n es) off ++ xs))) fun b' => K (.osl b' 0 (Nat.add n k) es))
      | _ => none
    | none => none)
  | none => none

/-- What is not told apart below. -/
def xeff (P : Program) (tr : Bool) (t : AF) (h : XH) (op : Op) (K : KV) : R :=
  match op with
  | .box _ x => chk (evalA t x).fit (xnew h (evalA t x).cells (fun b => .ptr b 0) K)
  | .buildSlice ty len parts => match elemT P ty with
    | some (_, es, _, z) => match fillA (fun i => some (i * es, es)) (zcells z len) (parts.toList.map fun p => (p.1, evalA t p.2)) with
      | some cells => chk (Nat.ble len 65536 && Nat.ble es 128) (xnew h cells (fun b => .osl b 0 len es) K)
      | none => none
    | none => none
  | .makeSlice ty l c => match elemT P ty with
    | some (_, es, _, z) => match evalA t l, evalA t c with
      | .int _ l, .int _ c => chk (decide (0 ≤ l) && decide (l ≤ c) && decide (c < 2 ^ 30)) (xnew h (zcells z l.toNat) (fun b => .osl b 0 l.toNat es) K)
      | _, _ => none
    | none => none
  | .makeMap ty none => match P.underlying ty with
    | some (.map kt _) => match shapeT P kt with
      | some sh => h.new (.map sh []) fun b => K (.map b)
      | none => none
    | _ => none
  | .mapUpdate ty m k x => xmapPut P t h ty m k x K
  | .insert ty m k x => xmapPut P t h ty m k x K
  | .lookup ty m k ok => match P.underlying ty with
    | some (.map kt et) => match zeroV P et, evalA t m with
      | some z, .map b => match h.get b with
        | .map sh es => chk (decide (shapeT P kt = some sh) && sh.ok (evalA t k)) (K (if ok then .tup [(xget es (evalA t k)).getD z, .bool (xget es (evalA t k)).isSome] else (xget es (evalA t k)).getD z) h)
        | _ => none
      | _, _ => none
    | _ => none
  | .range ty x => match P.underlying ty, evalA t x with
    | some .string, .str s => h.new (.sit s 0) fun b => K (.ptr b 0)
    | _, _ => none
  | .next it true => match evalA t it with
    | .ptr b 0 => match h.get b with
      | .sit s pos => match Nat.blt pos s.length with
        | true => h.set b (.sit s (pos + (Utf8.decode ⟨s.toArray⟩ pos).2)) (K (.tup [.bool true, .int .i64 pos, .int .i32 (Utf8.decode ⟨s.toArray⟩ pos).1]))
        | false => K (.tup [.bool false]) h
      | _ => none
    | _ => none
  | .call { callee := .builtin .append, args, argTypes } => match args.toList, argTypes.toList with
    | [s, x], [ts, tx] => xappend P tr h ts tx (evalA t s) (evalA t x) K
    | _, _ => none
  | .call { callee := .builtin .copy, args, argTypes } => match args.toList, argTypes.toList with
    | [d, x], [td, _] => match elemT P td with
      | some (_, es, _, _) => match appXs h.a es (evalA t x), evalA t d with
        | some (k, xs), .osl b off n es' => h.cell b fun m tr => chk (Nat.beq es' es && Nat.ble (off + n * es) m && AV.bdL h.n xs) (h.set b (.cells m (tr.putL 11 (xs.take (min k n * es)) off)) (K (.int .i64 (min k n))))
        | _, _ => none
      | none => none
    | _, _ => none
  | .call { callee := .builtin .min, args, .. } => match args.toList with
    | x :: rest => match minA false (evalA t x) (rest.map (evalA t)) with | some r => K r h | none => none
    | [] => none
  | .call { callee := .builtin .max, args, .. } => match args.toList with
    | x :: rest => match minA true (evalA t x) (rest.map (evalA t)) with | some r => K r h | none => none
    | [] => none
  | op => match pureA P t h.a op with | some r => K r h | none => none

/-! ### Operations, resolved -/
inductive XA where
  | t (i : Nat)
  | c (v : AV)
def XA.of : Operand → XA
  | .tmp i => .t i
  | .const v => .c (cval v)
  | .global _ => .c .undef
  | .func f => .c (.fn (.func f) [] [])
def XA.ev (a : XA) (t : Fr) : AV := XA.rec (motive := fun _ => AV) (fun i => t.getU i) (fun v => v) a
inductive XK where
  | mov (a : XA)
  | load (a : XA) (g : Bool) (s : Nat)
  | store (a x : XA) (s : Nat)
  | zero (n : Nat) (z : Tr AV)
  | fad (a : XA) (off : Nat)
  | idxS (a i : XA) (es : Nat)
  | idxA (a i : XA) (es len : Nat)
  | bin (f : IntKind → Int → Int → Option AV) (a b : XA)
  | ext (a : XA) (i : Nat)
  | call (f : XA) (args : List XA)
  | flag (f : XA) (args : List XA)
  | inv (f : XA) (m : String) (args : List XA)
  | gen (op : Op)
structure XO where
  g : Option (Nat × Bool)
  d : Option Nat
  k : XK

def binF : BinOp → Option (IntKind → Int → Int → Option AV)
  | .add => some fun k a b => some (.int k (k.wrap (a + b)))
  | .sub => some fun k a b => some (.int k (k.wrap (a - b)))
  | .mul => some fun k a b => some (.int k (k.wrap (a * b)))
  | .eql => some fun _ a b => some (.bool (decide (a = b)))
  | .neq => some fun _ a b => some (.bool (!decide (a = b)))
  | .lss => some fun _ a b => some (.bool (decide (a < b)))
  | .leq => some fun _ a b => some (.bool (decide (a ≤ b)))
  | .gtr => some fun _ a b => some (.bool (decide (b < a)))
  | .geq => some fun _ a b => some (.bool (decide (b ≤ a)))
  | _ => none

def XK.of (P : Program) (fl : Bool) (op : Op) : XK := match op with
  | .move x => .mov (.of x)
  | .assign x => .mov (.of x)
  | .load ty a => match aggT P ty, szT P ty with | some g, some s => .load (.of a) g s | _, _ => .gen op
  | .store ty a x => match szT P ty with | some s => .store (.of a) (.of x) s | none => .gen op
  | .alloc e => match zeroT P e with | some z => .zero z.length (ofL z) | none => .gen op
  | .fieldAddr s x f => match foT P s f with
    | some (off, ft) => match szT P ft with | some (_ + 1) => .fad (.of x) off | _ => .gen op
    | none => .gen op
  | .indexAddr ty x i => match P.underlying ty with
    | some (.slice e) => match szT P e with | some es => .idxS (.of x) (.of i) es | none => .gen op
    | some (.array len e) => match szT P e with | some es => .idxA (.of x) (.of i) es len | none => .gen op
    | _ => .gen op
  | .binOp o ty x y _ => match P.underlying ty with
    | some (.int _) => match binF o with | some f => .bin f (.of x) (.of y) | none => .gen op
    | _ => .gen op
  | .extract x i => .ext (.of x) i
  | .call { callee := .value f, args, .. } => match fl with | true => .flag (.of f) (args.toList.map .of) | false => .call (.of f) (args.toList.map .of)
  | .call { callee := .invoke f m, args, .. } => .inv (.of f) m (args.toList.map .of)
  | op => .gen op

def mfOk : Op → Bool
  | .makeFunc (.func _) _ _ => true
  | .makeFunc _ _ _ => false
  | _ => true
def XO.of (P : Program) (fl : List Nat) (ops : Array Oper) (o : Oper) : Option XO := match o.guard with
  | none => some ⟨none, o.dst, .of P (flag fl o) o.op⟩
  | some (j, want) => match (ops[j]?).bind (·.dst) with
    | some d => some ⟨some (d, want), o.dst, .of P (flag fl o) o.op⟩
    | none => none
def compL (P : Program) (fl : List Nat) (ops : Array Oper) : List Oper → Option (List XO)
  | [] => some []
  | o :: os => match mfOk o.op, XO.of P fl ops o, compL P fl ops os with | true, some x, some xs => some (x :: xs) | _, _, _ => none
/-! ### Regions that draw their order -/
def tb (m i : Nat) : Bool := Nat.beq (Nat.land (Nat.shiftRight m i) 1) 1
def edgesM (done : List Nat) (es : List Edge) : Nat := match es with
  | [] => 0
  | e :: es => match Region.binds .any e with
    | true => Nat.lor (edgesM done es) (Nat.lor (Nat.shiftLeft 1 e.on) (done.getD e.on 0))
    | false => edgesM done es
/-- For each operation, as bits, those that stand ahead of it whatever the order. -/
def ancMs (done : List Nat) : List Oper → List Nat
  | [] => done
  | o :: os => ancMs (done ++ [edgesM done o.after.toList]) os
/-- The operands that bear the blocks that are touched. -/
def accOf (P : Program) : Op → List Operand
  | .load _ a => [a]
  | .store _ a _ => [a]
  | .lookup _ m _ _ => [m]
  | .mapUpdate _ m _ _ => [m]
  | .insert _ m _ _ => [m]
  | .next it true => [it]
  | .convert _ _ x => [x]
  | .slice ty x _ _ none => match P.underlying ty with | some (.array _ _) => [x] | _ => []
  | .call { callee := .builtin .len, args, argTypes } => match args.toList, argTypes.toList with
    | [x], [ty] => (match P.underlying ty with | some (.map _ _) => [x] | _ => [])
    | _, _ => []
  | .call { callee := .builtin .append, args, .. } => args.toList
  | .call { callee := .builtin .copy, args, .. } => args.toList
  | _ => []
/-- Those that bear what is written. -/
def wrOf : Op → List Operand
  | .store _ a _ => [a]
  | .mapUpdate _ m _ _ => [m]
  | .insert _ m _ _ => [m]
  | .next it true => [it]
  | .call { callee := .builtin .append, args, .. } => args.toList.take 1
  | .call { callee := .builtin .copy, args, .. } => args.toList.take 1
  | _ => []
/-- May it take a fresh block? -/
def frOf : Op → Bool
  | .alloc _ | .box .. | .buildSlice .. | .makeSlice .. | .makeMap .. | .range .. => true
  | .call { callee := .builtin .append, .. } => true
  | _ => false
def isCallV : Op → Bool | .call { callee := .value _, .. } => true | _ => false
def hvy (fl : List Nat) (o : Oper) : Bool := isCallV o.op && !flag fl o
def readOp (P : Program) (op : Op) : Bool := (wrOf op).isEmpty && !frOf op && !isCallV op
def newK : Op → Bool
  | .alloc _ => true
  | .buildSlice .. => true
  | .box .. => true
  | _ => false
def newOp (P : Program) (o : Oper) : Bool := o.guard.isNone && newK o.op
def newPlan (P : Program) (t : AF) : Op → Bool
  | .alloc e => (zeroT P e).isSome
  | .box _ x => (evalA t x).fit
  | .buildSlice ty len parts => match elemT P ty with
    | some (_, es, _, z) => (fillA (fun i => some (i * es, es)) (zcells z len) (parts.toList.map fun p => (p.1, evalA t p.2))).isSome && Nat.ble len 65536 && Nat.ble es 128
    | none => false
  | _ => false
def stillOp (P : Program) (op : Op) : Bool := (accOf P op).isEmpty && (wrOf op).isEmpty && !frOf op && !isCallV op
def isApp : Op → Bool | .call { callee := .builtin .append, .. } => true | _ => false
/-- The slots of appends, and of calls that are told ahead: those that stand unordered to something that writes. -/
def flD (P : Program) (ms : List Nat) (os : List Oper) : List Nat :=
  let l := (List.range os.length).zip os
  l.filterMap fun p => match isApp p.2.op || isCallV p.2.op && !(l.all fun q => Nat.beq p.1 q.1 || tb (ms.getD p.1 0) q.1 || tb (ms.getD q.1 0) p.1 || readOp P q.2.op || newOp P q.2) with | true => p.2.dst | false => none
def directM (es : List Edge) : Nat := match es with
  | [] => 0
  | e :: es => match Region.binds .any e with
    | true => Nat.lor (directM es) (Nat.shiftLeft 1 e.on)
    | false => directM es
def ordGo : Nat → List (Nat × Nat × Nat) → Nat → List Nat
  | 0, _, _ => []
  | k + 1, rem, done =>
    let rd := rem.filter fun x => Nat.beq (Nat.land x.2.1 done) x.2.1
    match (rd.find? fun x => Nat.beq x.2.2 0).or ((rd.find? fun x => Nat.beq x.2.2 1).or ((rd.find? fun x => Nat.beq x.2.2 2).or ((rd.find? fun x => Nat.beq x.2.2 3).or rd.head?))) with
    | some x => x.1 :: ordGo k (rem.filter fun y => !Nat.beq y.1 x.1) (Nat.lor done (Nat.shiftLeft 1 x.1))
    | none => []
def ordOf (P : Program) (fl : List Nat) (os : List Oper) : List Nat :=
  ordGo os.length (((List.range os.length).zip os).map fun p => (p.1, directM p.2.after.toList, match stillOp P p.2.op with | true => 0 | false => match flag fl p.2 with | true => 1 | false => (match readOp P p.2.op with | true => 2 | false => (match newOp P p.2 with | true => 4 | false => 3)))) 0
def pairsM (P : Program) (ms : List Nat) (ops : Array Oper) (fl : List Nat) : List Nat → Bool
  | [] => true
  | i :: rest => rest.all (fun j => tb (ms.getD j 0) i || (match ops[i]?, ops[j]? with | some x, some y => x.apart ops y | _, _ => false)) && pairsM P ms ops fl rest
def nodupB : List Nat → Bool
  | [] => true
  | a :: l => !l.contains a && nodupB l
def ordM (P : Program) (ms : List Nat) (ops : Array Oper) (fl ord : List Nat) : Bool := ordOk ops [] ord && pairsM P ms ops fl ord && (List.range ops.size).all ord.contains && decide (ord.length = ops.size)
/-- kind 0: a plan; 1: a call told ahead; 2: a call that may turn memory. -/
structure XD where
  x : XO
  i : Nat
  m : Nat
  kind : Nat
  acc : List XA
  wr : List XA
  fr : Bool
  news : List Op
/-- 0: a plan; 1: a call told ahead; 2: a call that may turn memory; 4: an append. -/
def kindOf (fl : List Nat) (o : Oper) : Nat := match isApp o.op with | true => 4 | false => match isCallV o.op with | true => (match flag fl o with | true => 1 | false => 2) | false => 0
def isInv : Op → Bool | .call { callee := .invoke .., .. } => true | _ => false
/-- What comes later, unordered: fresh blocks alone, and what they hang on is there. -/
def newsOf (P : Program) (fl : List Nat) (ops : Array Oper) (ms : List Nat) (i : Nat) (is : List Nat) : Option (List Op) := match (is.filter fun j => !tb (ms.getD j 0) i).all (fun j => match ops[j]? with
    | some o => newOp P o && !flag fl o && is.all fun k => match ops[k]? with | some x => (match x.dst with | some d => !(o.looksAt ops).contains d | none => true) | none => false
    | none => false) with
  | true => some (is.filterMap fun j => match tb (ms.getD j 0) i with | true => none | false => (ops[j]?).map (·.op))
  | false => none
def XD.of (P : Program) (fl : List Nat) (ops : Array Oper) (ms : List Nat) (i : Nat) (o : Oper) (is : List Nat) : Option XD := match mfOk o.op && !isInv o.op && (match isApp o.op with | true => flag fl o | false => isCallV o.op || !flag fl o), XO.of P [] ops o, (match hvy fl o with | true => newsOf P fl ops ms i is | false => some []) with
  | true, some x, some nw => some ⟨x, i, ms.getD i 0, kindOf fl o, (accOf P o.op).map .of, (wrOf o.op).map .of, frOf o.op, nw⟩
  | _, _, _ => none
def compDL (P : Program) (fl : List Nat) (ops : Array Oper) (ms : List Nat) : List Nat → Option (List XD)
  | [] => some []
  | i :: is => match ops[i]?, compDL P fl ops ms is with
    | some o, some xs => match XD.of P fl ops ms i o is with | some x => some (x :: xs) | none => none
    | _, _ => none
def slotsOf (fl : List Nat) (ops : Array Oper) (l : List Nat) : List Nat := l.filterMap fun i => match ops[i]? with | some o => (match flag fl o with | true => o.dst | false => none) | none => none
def compDW (P : Program) (ops : Array Oper) (ms fl ord : List Nat) : Option (List XD) := match ordM P ms ops fl ord && nodupB (slotsOf fl ops ord) with
  | true => compDL P fl ops ms ord
  | false => none
def compD (P : Program) (ops : Array Oper) : Option (List XD) :=
  compDW P ops (ancMs [] ops.toList) (flD P (ancMs [] ops.toList) ops.toList) (ordOf P (flD P (ancMs [] ops.toList) ops.toList) ops.toList)

def pairsS (P : Program) (ms : List Nat) (ops : Array Oper) : List Nat → Bool
  | [] => true
  | i :: rest => rest.all (fun j => tb (ms.getD j 0) i || (match ops[i]?, ops[j]? with | some x, some y => swapOk P ops [] x y | _, _ => false)) && pairsS P ms ops rest
/-- One order serves, whatever memory holds; for regions with an append. -/
def statD (P : Program) (ops : Array Oper) : Bool := match ops.any (fun o => isApp o.op) with
  | true => ordOk ops [] (ordOf P [] ops.toList) && pairsS P (ancMs [] ops.toList) ops (ordOf P [] ops.toList) && (List.range ops.size).all (ordOf P [] ops.toList).contains && decide ((ordOf P [] ops.toList).length = ops.size)
  | false => false
abbrev XCall := AV → List AV → XH → KV → R
abbrev XRun := Nat → Bool → Code → Fr → XH → KC → R

def intK (v : AV) (K : IntKind → Int → R) : R := match v with | .int k n => K k n | _ => none
def optK (v : Option AV) (K : AV → R) : R := Option.rec (motive := fun _ => R) none K v

def xk (P : Program) (tr : Bool) (call : XCall) (k : XK) (t : Fr) (h : XH) (K : KV) : R := match k with
  | .mov a => K (a.ev t) h
  | .load a g s => match a.ev t with
    | .ptr b off => h.cell b fun n c => Bool.rec (motive := fun _ => R) (chk (Nat.blt off n) (K (c.getU off) h)) (chk (Nat.ble (Nat.add off s) n) (K (.agg (c.take s off)) h)) g
    | .fptr cells => optK (loadC g s cells) fun v => K v h
    | _ => none
  | .store a x s => match a.ev t with
    | .ptr b off => h.cell b fun n c => chk (Nat.ble (Nat.add off s) n && (x.ev t).bd h.n) (match x.ev t with
      | .agg cs => chk (Nat.beq cs.length s) (h.set b (.cells n (c.putL 11 cs off)) (K .undef))
      | v => chk (Nat.beq s 1 && v.fit) (h.set b (.cells n (c.put 11 off v)) (K .undef)))
    | _ => none
  | .zero n z => chk (Nat.blt n 2048) (h.new (.cells n z) fun b => K (.ptr b 0))
  | .fad a off => match a.ev t with
    | .ptr b o => K (.ptr b (Nat.add o off)) h
    | .fptr cells => K (.fptr (cells.drop off)) h
    | _ => none
  | .idxS a i es => intK (i.ev t) fun _ i => match i with
    | .ofNat i => match a.ev t with
      | .osl b off n _ => chk (Nat.blt i n) (K (.ptr b (Nat.add off (Nat.mul i es))) h)
      | .sl n cells => chk (Nat.blt i n && Nat.blt (Nat.mul i es) cells.length) (K (.fptr (cells.drop (Nat.mul i es))) h)
      | _ => none
    | .negSucc _ => none
  | .idxA a i es len => intK (i.ev t) fun _ i => match i with
    | .ofNat i => match a.ev t with
      | .ptr b off => chk (Nat.blt i len) (K (.ptr b (Nat.add off (Nat.mul i es))) h)
      | .fptr cells => chk (Nat.blt i len) (K (.fptr (cells.drop (Nat.mul i es))) h)
      | _ => none
    | .negSucc _ => none
  | .bin f a b => intK (a.ev t) fun k x => intK (b.ev t) fun k' y => chk (decide (k = k')) (optK (f k x y) fun v => K v h)
  | .ext a i => match a.ev t with | .tup vs => optK (vs[i]?) fun v => K v h | _ => none
  | .call f args => call (f.ev t) (args.map fun a => a.ev t) h K
  | .flag f args => match call (f.ev t) (args.map fun a => a.ev t) { h with lo := h.n } (fun r h' => some (r, h')) with
    | some (r, h') => chk ((frzF 8 h'.a h.a r).bd h.n) (K (frzF 8 h'.a h.a r) h)
    | none => none
  | .inv f m args => match f.ev t with | .iface ty v => (match methodA P ty m with | some g => call (.fn (.func g) [v] []) (args.map fun a => a.ev t) h K | none => none) | _ => none
  | .gen op => xeff P tr t.at h op K

def xput (t : Fr) (d : Option Nat) (v : AV) (n : Nat) (K : Fr → R) : R := Option.rec (motive := fun _ => R) (K t) (fun d => chk (Nat.blt d 256 && v.bd n) (K (t.put 8 d v))) d

def xops (P : Program) (tr : Bool) (call : XCall) (l : List XO) : Fr → XH → (Fr → XH → R) → R :=
  List.rec (motive := fun _ => Fr → XH → (Fr → XH → R) → R) (fun t h K => K t h)
    (fun o _ ih t h K => match o.g with
      | none => xk P tr call o.k t h fun r h' => xput t o.d r h'.n fun t' => ih t' h' K
      | some (j, want) => match t.getU j with
        | .bool b => match b == want with
          | true => xk P tr call o.k t h fun r h' => xput t o.d r h'.n fun t' => ih t' h' K
          | false => xput t o.d (.tup []) h.n fun t' => ih t' h K
        | .tup [] => xput t o.d (.tup []) h.n fun t' => ih t' h K
        | _ => none) l

def blk (v : AV) : List Nat := match v with | .ptr b _ => [b] | .osl b _ _ _ => [b] | .map b => [b] | _ => []
def namesOf (l : List XA) (t : Fr) : List Nat := l.flatMap fun a => blk (a.ev t)
/-- What an operation touched and wrote; base: all that was there at first. -/
structure XE where
  i : Nat
  base : Bool
  tch : List Nat
  wr : List Nat
  fr : Bool
def XH.live (h : XH) (b : Nat) : Bool := match h.get b with | .gone => false | _ => true
def sep (h0 h : XH) (a c : Nat) : Bool := !(Nat.beq a c) && ((h0.live a && h0.live c) || (h.live a && h.live c))
def xclr (h0 h : XH) (m : Nat) (T W : List Nat) (x : XE) : Bool := tb m x.i || ((match x.base with | true => W.isEmpty | false => W.all fun a => x.tch.all fun c => sep h0 h a c) && x.wr.all fun a => T.all fun c => sep h0 h a c)
def addE (i : Nat) (T W : List Nat) (fr : Bool) (log : List XE) : List XE := match T.isEmpty && W.isEmpty && !fr with | true => log | false => ⟨i, false, T, W, fr⟩ :: log

/-- Blocks that are out of a call's sight. -/
def hide (h : XH) (ns : List Nat) : XH := { m := ns.foldl (fun m b => m.put 14 b .gone) h.m, n := h.n, lo := h.lo, sh := h.sh }
def unhide (h h' : XH) (ns : List Nat) : XH := { m := ns.foldl (fun m b => m.put 14 b (h.get b)) h'.m, n := h'.n, lo := h'.lo, sh := h'.sh }
/-- Blocks that were appended to: (b, j, k, tr): b still holds the first k cells of tr; it is what j is now, or given up. -/
abbrev Gh := List (Nat × Nat × Nat × Tr AV)
structure XL where
  es : List XE
  gs : Gh
  pb : Bool
/-- One operation of a region that draws. -/
def xd1 (P : Program) (call : XCall) (h0 : XH) (o : XD) (t : Fr) (h : XH) (l : XL) (K : Fr → XH → XL → R) : R := match o.kind with
  | 0 => chk ((namesOf o.acc t).all h.live && (namesOf o.wr t).all h.live && l.es.all (xclr h0 h o.m (namesOf o.acc t) (namesOf o.wr t)))
      (match xk P false call o.x.k t h (fun r h' => some (r, h')) with
        | some (r, h') => xput t o.x.d r h'.n fun t' => K t' h' ⟨addE o.i (namesOf o.acc t) (namesOf o.wr t) o.fr l.es, (match (namesOf o.wr t).isEmpty with | true => l.gs | false => []), l.pb && (namesOf o.wr t).isEmpty⟩
        | none => none)
  | 1 => match o.x.k with
    | .call f args => match f.ev t with
      | .fn (.func g) first caps => chk (l.pb && AV.bdL h0.n first && AV.bdL h0.n caps && AV.bdL h0.n (args.map fun a => a.ev t))
        (match call (.fn (.func g) first caps) (args.map fun a => a.ev t) { h0 with lo := h0.n } (fun r h' => some (r, h')) with
        | some (r, h') => chk ((frzF 8 h'.a h0.a r).bd h0.n) (xput t o.x.d (frzF 8 h'.a h0.a r) h.n fun t' => K t' h ⟨⟨o.i, true, [], [], false⟩ :: l.es, l.gs, l.pb⟩)
        | none => none)
      | _ => none
    | _ => none
  | 2 => chk (o.news.all (newPlan P t.at)) (match l.es.filter fun x => !tb o.m x.i with
    | [] => (match xk P false call o.x.k t h (fun r h' => some (r, h')) with
      | some (r, h') => xput t o.x.d r h'.n fun t' => K t' h' ⟨l.es, [], false⟩
      | none => none)
    | un => chk ((un.all fun x => x.wr.isEmpty && !x.fr && !x.base) && (un.flatMap (·.tch)).all h.live) (match xk P false call o.x.k t (hide h (un.flatMap (·.tch))) (fun r h' => some (r, h')) with
      | some (r, h') => xput t o.x.d r h'.n fun t' => K t' (unhide h h' (un.flatMap (·.tch))) ⟨l.es, [], false⟩
      | none => none))
  | 4 => match o.x.k with
    | .gen (.call { callee := .builtin .append, args, argTypes }) => match args.toList, argTypes.toList with
      | [s, x], [ts, tx] => match elemT P ts with
        | some (_, es, _, _) => chk (rowT P tx && l.es.all (xclr h0 h o.m (namesOf o.acc t) (namesOf o.wr t))) (match appXs h.a es (evalA t.at x) with
          | some (k, xs) => (match evalA t.at s with
            | .nilsl => (match Nat.beq k 0 with
              | true => xput t o.x.d .nilsl h.n fun t' => K t' h ⟨addE o.i (namesOf o.acc t) [] true l.es, l.gs, l.pb⟩
              | false => chk (Nat.blt k (2 ^ 30)) (xnew h xs (fun b => .osl b 0 k es) fun r h' => xput t o.x.d r h'.n fun t' => K t' h' ⟨addE o.i (namesOf o.acc t) [] true l.es, l.gs, l.pb⟩))
            | .osl b 0 n es' => (match (match h.get b with | .cells m tr => some (b, m, tr) | _ => (match l.gs.find? (fun g : Nat × Nat × Nat × Tr AV => Nat.beq g.1 b) with | some g => (match h.get g.2.1 with | .cells _ _ => some (g.2.1, g.2.2.1, g.2.2.2) | _ => none) | none => none)) with
              | some (j, m, tr) => chk (Nat.beq es' es && Nat.ble (Nat.mul n es) m && Nat.blt (Nat.add (Nat.mul n es) xs.length) 2048 && Nat.blt (Nat.add n k) (2 ^ 30) && AV.bdL h.n xs && !h.sh.contains b)
                (h.set j .gone fun h1 => h1.new (.cells (Nat.add (Nat.mul n es) xs.length) (tr.putL 11 xs (Nat.mul n es))) fun b' h' => xput t o.x.d (.osl b' 0 (Nat.add n k) es) h'.n fun t' => K t' h' ⟨addE o.i (namesOf o.acc t) (namesOf o.wr t) true l.es, [(b, b', Nat.mul n es, tr)], false⟩)
              | none => none)
            | _ => none)
          | none => none)
        | none => none
      | _, _ => none
    | _ => none
  | _ => none
def xdops (P : Program) (call : XCall) (h0 : XH) (l : List XD) : Fr → XH → XL → (Fr → XH → R) → R :=
  List.rec (motive := fun _ => Fr → XH → XL → (Fr → XH → R) → R) (fun t h _ K => K t h)
    (fun o _ ih t h log K => match o.x.g with
      | none => xd1 P call h0 o t h log fun t' h' log' => ih t' h' log' K
      | some (j, want) => match t.getU j with
        | .bool b => match b == want with
          | true => xd1 P call h0 o t h log fun t' h' log' => ih t' h' log' K
          | false => match Nat.beq o.kind 2 with
            | true => chk (o.news.all (newPlan P t.at) && log.es.all (fun x => tb o.m x.i || (x.wr.isEmpty && !x.fr))) (xput t o.x.d (.tup []) h.n fun t' => ih t' h log K)
            | false => xput t o.x.d (.tup []) h.n fun t' => ih t' h log K
        | .tup [] => match Nat.beq o.kind 2 with
          | true => chk (o.news.all (newPlan P t.at) && log.es.all (fun x => tb o.m x.i || (x.wr.isEmpty && !x.fr))) (xput t o.x.d (.tup []) h.n fun t' => ih t' h log K)
          | false => xput t o.x.d (.tup []) h.n fun t' => ih t' h log K
        | _ => none) l

def xputs (n : Nat) : List Nat → List AV → Fr → (Fr → R) → R
  | p :: ps, a :: as, t, K => xput t (some p) a n fun t' => xputs n ps as t' K
  | _, _, t, K => K t
def xentry (n : Nat) : Nat → List AV → Fr → (Fr → R) → R
  | _, [], t, K => K t
  | i, a :: as, t, K => xput t (some i) a n fun t' => xentry n (i + 1) as t' K

def fnOk (fn : Func) : Bool := match fn.body with | some c => codeOk fn.ntmps c && Nat.ble fn.ntmps 256 | none => false
def isI64 : AV → Bool | .int .i64 _ => true | _ => false
/-- What slices.Delete leaves of a row of numbers. -/
def delL (cs : List AV) (i j : Nat) : List AV := cs.take i ++ cs.drop j ++ List.replicate (j - i) (.int .i64 0)
def xdel (args : List AV) (h : XH) (K : KV) : R := match args with
  | [.osl b off n 1, .int .i64 (.ofNat i), .int .i64 (.ofNat j)] => h.cell b fun m t => chk (Nat.ble i j && Nat.ble j n && Nat.ble (Nat.add off n) m && (t.take n off).all isI64)
      (h.set b (.cells m (t.putL 11 (delL (t.take n off) i j) off)) (K (.osl b off (Nat.sub n (Nat.sub j i)) 1)))
  | _ => none
def xcall (P : Program) (L : List Nat × List Nat) (run : XRun) : XCall := fun fv args h K => match fv with
  | .fn (.func f) first caps => match L.2.contains f with
    | true => xdel (first ++ args ++ caps) h K
    | false => match L.1.contains f, P.funcs[f]? with
      | true, some fn => match fn.body with
        | some c => chk (fnOk fn && Nat.ble (first ++ args ++ caps).length fn.ntmps) (xentry h.n 0 (first ++ args ++ caps) .nil fun t => run fn.ntmps false c t h fun e t' h' =>
            chk (match e with | .normal => true | .ret => true | _ => false) (optK (resultsA P t'.at h'.a fn.results.toList) fun r => K r h'))
        | none => none
      | _, _ => none
  | .fn (.yield l) first caps => match first, caps, h.get l with
    | [], [], .loop ps as b N t none => h.set l .gone fun h1 => xputs h.n ps.toList args t fun t1 => chk (Nat.beq ps.size args.length && ps.toList.all (fun p => Nat.blt p N) && codeOk N as && codeOk N b)
        (run N true as t1 h1 fun e t2 h2 => match e with
          | .normal => run N true b t2 h2 fun e _ h3 => match jumpOf e with
            | some j => h3.set l (.loop ps as b N t j) (K (.bool j.isNone))
            | none => none
          | _ => none)
    | _, _, _ => none
  | _ => none

def xstep (P : Program) (L : List Nat × List Nat) (run : XRun) : XRun := fun N inr c t h K => match c with
  | .skip => K .normal t h
  | .label _ => K .normal t h
  | .region _ ops draw => match draw with
    | false => match compL P [] ops ops.toList with
      | some l => xops P true (xcall P L run) l t h fun t' h' => K .normal t' h'
      | none => none
    | true => match statD P ops with
      | true => (match compL P [] ops (opersOf ops (ordOf P [] ops.toList)) with
        | some l => xops P false (xcall P L run) l t h fun t' h' => K .normal t' h'
        | none => none)
      | false => (match compD P ops with
        | some l => xdops P (xcall P L run) h l t h ⟨[], [], true⟩ fun t' h' => K .normal t' h'
        | none => none)
  | .seq x y => run N inr x t h fun e t' h' => match e with
    | .normal => run N inr y t' h' K
    | e => K e t' h'
  | .cond c x y => match (XA.of c).ev t with
    | .bool b => Bool.rec (motive := fun _ => R) (run N inr y t h K) (run N inr x t h K) b
    | _ => none
  | .block id c => run N inr c t h fun e t' h' => match e with
    | .exit i => match Nat.beq i id with
      | true => K .normal t' h'
      | false => K (.exit i) t' h'
    | e => K e t' h'
  | .loop b => run N inr b t h fun e t' h' => match e with
    | .normal => run N inr (.loop b) t' h' K
    | e => K e t' h'
  | .scope c => run N inr c t h K
  | .exit id => K (.exit id) t h
  | .ret => K .ret t h
  | .rangeFunc g ps as b => match inr, evalA t.at g with
    | false, .fn (.func f) first caps => h.new (.loop ps as b N t none) fun l h1 => xcall P L run (.fn (.func f) first caps) [.fn (.yield l) [] []] h1 fun _ h' => match h'.get l with
      | .loop _ _ _ _ _ pend => h'.set l .gone fun h2 => match pend with
        | none => K .normal t h2
        | some .ret => K .ret t h2
        | some (.exit id) => K (.exit id) t h2
        | _ => none
      | _ => none
    | _, _ => none
  | _ => none

def xrun (P : Program) (L : List Nat × List Nat) (n : Nat) : XRun := Nat.rec (motive := fun _ => XRun) (fun _ _ _ _ _ _ => none) (fun _ ih => xstep P L ih) n

def xstart : XH := { m := .nil, n := 0, lo := 0, sh := [] }
/-- A call from an empty heap. -/
def xfunD (P : Program) (L : List Nat × List Nat) (n : Nat) (f : FuncId) (args : List AV) : Option AV := match xcall P L (xrun P L n) (.fn (.func f) [] []) args xstart (fun r h => some (r, h)) with
  | some (r, h) => some (frzF 8 h.a AHeap.empty r)
  | none => none
def xfun (P : Program) (L : List Nat) (n : Nat) (f : FuncId) (args : List AV) : Option AV := xfunD P (L, []) n f args
end
end Go.AH
