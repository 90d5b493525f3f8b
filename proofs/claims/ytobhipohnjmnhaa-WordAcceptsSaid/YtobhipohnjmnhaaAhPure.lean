/-
  Operations that compute a value and leave memory alone: what they give on abstract values.
-/
import Derived.Test.YtobhipohnjmnhaaAhRep
set_option linter.unusedSimpArgs false
set_option linter.unusedVariables false
set_option linter.unusedSectionVars false
namespace Go.AH
open Go

def AF := Nat → AV
def AF.put (t : AF) (d : Nat) (v : AV) : AF := fun i => if i = d then v else t i
@[simp] theorem AF.put_same (t : AF) (d : Nat) (v : AV) : t.put d v d = v := by simp [AF.put]
theorem AF.put_ne (t : AF) (d i : Nat) (v : AV) (h : i ≠ d) : t.put d v i = t i := by simp [AF.put, h]
theorem AF.put_at (t : AF) (d i : Nat) (v : AV) : t.put d v i = if i = d then v else t i := rfl

def onSome {α : Type} (o : Option α) (K : α → Prop) : Prop := match o with | some v => K v | none => False
theorem onSome_iff {α : Type} (o : Option α) (K : α → Prop) : onSome o K ↔ ∃ v, o = some v ∧ K v := by cases o <;> simp [onSome]

def sval : Value → AV
  | .bool b => .bool b
  | .int k n => .int k n
  | .string s => .str s.data.toList
  | .slice none 0 0 => .nilsl
  | .pointer none => .nilptr
  | .map none => .nilmap
  | .nilFunc => .nilfn
  | .nilIface => .nilif
  | _ => .undef

def cval : Value → AV
  | .agg cs => if (cs.toList.map sval).all AV.one then .agg (cs.toList.map sval) else .undef
  | v => sval v

def evalA (t : AF) : Operand → AV
  | .tmp i => t i
  | .const v => cval v
  | .global _ => .undef
  | .func f => .fn (.func f) [] []

def szT (P : Program) (t : TypeId) : Option Nat := (P.info? t).map (·.size)
def aggT (P : Program) (t : TypeId) : Option Bool := (P.underlying t).map fun | .struct _ => true | .array _ _ => true | _ => false
def zeroT (P : Program) (t : TypeId) : Option (List AV) :=
  match (P.info? t).bind (·.zero) with
  | some z => match cval z with
    | .undef => none
    | a => some a.cells
  | none => none
def bytesT (P : Program) (t : TypeId) : Option Nat := (P.info? t).map (·.bytes)
def foT (P : Program) (s : TypeId) (f : Nat) : Option (Nat × TypeId) :=
  match P.underlying s with
  | some (.struct fields) => (fields[f]?).map fun fd => (fd.offset, fd.type)
  | _ => none

def AV.fit : AV → Bool
  | .undef | .tup _ => false
  | _ => true

def loadC (a : Bool) (s : Nat) (cells : List AV) : Option AV :=
  if a then (if s ≤ cells.length then some (.agg (cells.take s)) else none) else cells.head?

def loadA (P : Program) (t : TypeId) (cells : List AV) : Option AV :=
  match aggT P t, szT P t with
  | some a, some s => loadC a s cells
  | _, _ => none

def cmpA (op : BinOp) (a b : Int) : Option AV :=
  match op with
  | .eql => some (.bool (decide (a = b)))
  | .neq => some (.bool (!decide (a = b)))
  | .lss => some (.bool (decide (a < b)))
  | .leq => some (.bool (decide (a ≤ b)))
  | .gtr => some (.bool (decide (b < a)))
  | .geq => some (.bool (decide (b ≤ a)))
  | _ => none

def intA (op : BinOp) (k : IntKind) (a b : Int) : Option AV :=
  match op with
  | .add => some (.int k (k.wrap (a + b)))
  | .sub => some (.int k (k.wrap (a - b)))
  | .mul => some (.int k (k.wrap (a * b)))
  | .quo => if b = 0 then none else some (.int k (k.wrap (a.tdiv b)))
  | .rem => if b = 0 then none else some (.int k (a.tmod b))
  | .and => some (.int k (k.wrap (BitVec.ofInt k.bits a &&& BitVec.ofInt k.bits b).toNat))
  | .or => some (.int k (k.wrap (BitVec.ofInt k.bits a ||| BitVec.ofInt k.bits b).toNat))
  | .xor => some (.int k (k.wrap (BitVec.ofInt k.bits a ^^^ BitVec.ofInt k.bits b).toNat))
  | .andNot => some (.int k (k.wrap (BitVec.ofInt k.bits a &&& ~~~BitVec.ofInt k.bits b).toNat))
  | _ => cmpA op a b

def strA (op : BinOp) (a b : List UInt8) : Option AV :=
  match op with
  | .add => if a.length + b.length < 2 ^ 62 then some (.str (a ++ b)) else none
  | .eql => some (.bool (decide (a = b)))
  | .neq => some (.bool (!decide (a = b)))
  | .lss => some (.bool (Op.bytesLess a b))
  | .leq => some (.bool (Op.bytesLess a b || decide (a = b)))
  | .gtr => some (.bool (!(Op.bytesLess a b || decide (a = b))))
  | .geq => some (.bool (!Op.bytesLess a b))
  | _ => none

/-- Equality of what is no number and no string. -/
def eqlA (P : Program) (t : TypeId) (x y : AV) : Option Bool :=
  match P.underlying t, x, y with
  | some .bool, .bool a, .bool b => some (a == b)
  | some (.pointer _), .nilptr, .nilptr => some true
  | some (.pointer _), .nilptr, .ptr _ _ => some false
  | some (.pointer _), .ptr _ _, .nilptr => some false
  | some (.pointer _), .nilptr, .fptr _ => some false
  | some (.pointer _), .fptr _, .nilptr => some false
  | some (.slice _), .nilsl, .nilsl => some true
  | some (.slice _), .nilsl, .osl .. => some false
  | some (.slice _), .osl .., .nilsl => some false
  | some (.slice _), .nilsl, .sl _ (_ :: _) => some false
  | some (.slice _), .sl _ (_ :: _), .nilsl => some false
  | some (.map _ _), .nilmap, .nilmap => some true
  | some (.map _ _), .nilmap, .map _ => some false
  | some (.map _ _), .map _, .nilmap => some false
  | some (.func _ _ _), .nilfn, .nilfn => some true
  | some (.func _ _ _), .nilfn, .fn .. => some false
  | some (.func _ _ _), .fn .., .nilfn => some false
  | some (.interface _), .nilif, .iface _ _ => some false
  | some (.interface _), .iface _ _, .nilif => some false
  | _, _, _ => none

def binA (P : Program) (op : BinOp) (t : TypeId) (x y : AV) : Option AV :=
  match x, y with
  | .int k a, .int k' b =>
    match op with
    | .shl => if b < 0 then none else some (.int k (k.wrap (a * 2 ^ min b.toNat k.bits)))
    | .shr => if b < 0 then none else some (.int k (a.fdiv (2 ^ min b.toNat k.bits)))
    | _ => if k = k' then intA op k a b else none
  | .str a, .str b => strA op a b
  | x, y =>
    match op with
    | .eql => (eqlA P t x y).map fun b => .bool b
    | .neq => (eqlA P t x y).map fun b => .bool (!b)
    | _ => none

def unA (op : UnOp) (x : AV) : Option AV :=
  match op, x with
  | .neg, .int k n => some (.int k (k.wrap (0 - n)))
  | .not, .bool b => some (.bool !b)
  | .xor, .int k n => intA .xor k (if k.signed then -1 else k.max) n
  | _, _ => none

def indexAddrA (P : Program) (t : TypeId) (x i : AV) : Option AV :=
  match i with
  | .int _ i =>
    match P.underlying t, x with
    | some (.slice e), .sl n cells =>
      match szT P e with
      | some es => if 0 ≤ i ∧ i < n ∧ i.toNat * es < cells.length then some (.fptr (cells.drop (i.toNat * es))) else none
      | none => none
    | some (.slice e), .osl b off n _ =>
      match szT P e with
      | some es => if 0 ≤ i ∧ i < n then some (.ptr b (off + i.toNat * es)) else none
      | none => none
    | some (.array len e), .ptr b off =>
      match szT P e with
      | some es => if 0 ≤ i ∧ i < len then some (.ptr b (off + i.toNat * es)) else none
      | none => none
    | some (.array len e), .fptr cells =>
      match szT P e with
      | some es => if 0 ≤ i ∧ i < len then some (.fptr (cells.drop (i.toNat * es))) else none
      | none => none
    | _, _ => none
  | _ => none

def partA (P : Program) (t : TypeId) (cells : List AV) (off : Nat) : Option AV := loadA P t (cells.drop off)

def indexA (P : Program) (t : TypeId) (x i : AV) : Option AV :=
  match i with
  | .int _ i =>
    match P.underlying t, x with
    | some (.array len e), .agg cells =>
      match szT P e with
      | some es => if 0 ≤ i ∧ i < len then partA P e cells (i.toNat * es) else none
      | none => none
    | some .string, .str s => if 0 ≤ i then (s[i.toNat]?).map fun b => .int .u8 b.toNat else none
    | _, _ => none
  | _ => none

def fieldAddrA (P : Program) (s : TypeId) (x : AV) (f : Nat) : Option AV :=
  match foT P s f with
  | some (off, ft) =>
    match szT P ft with
    | some n =>
      if n = 0 then none else
      match x with
      | .ptr b o => some (.ptr b (o + off))
      | .fptr cells => some (.fptr (cells.drop off))
      | _ => none
    | none => none
  | none => none

def fieldA (P : Program) (s : TypeId) (x : AV) (f : Nat) : Option AV :=
  match foT P s f, x with
  | some (off, ft), .agg cells => partA P ft cells off
  | _, _ => none

def lenA (P : Program) (h : AHeap) (t : TypeId) (x : AV) : Option AV :=
  match P.underlying t, x with
  | some .string, .str s => some (.int .i64 s.length)
  | some (.slice _), .nilsl => some (.int .i64 0)
  | some (.slice _), .sl n _ => some (.int .i64 n)
  | some (.slice _), .osl _ _ n _ => some (.int .i64 n)
  | some (.array n _), _ => some (.int .i64 n)
  | some (.map _ _), .nilmap => some (.int .i64 0)
  | some (.map _ _), .map b =>
    match h b with
    | some (.map _ es) => some (.int .i64 es.length)
    | _ => none
  | _, _ => none

/-- An optional bound of a slice expression. -/
def boundA (d : Int) : Option AV → Option Int
  | none => some d
  | some (.int _ i) => some i
  | _ => none

def sliceA (P : Program) (t : TypeId) (x : AV) (lo hi : Option AV) : Option AV :=
  match P.underlying t, x with
  | some .string, .str s =>
    match boundA 0 lo, boundA s.length hi with
    | some l, some h => if 0 ≤ l ∧ l ≤ h ∧ h ≤ s.length then some (.str ((s.drop l.toNat).take (h.toNat - l.toNat))) else none
    | _, _ => none
  | some (.slice e), .nilsl =>
    match szT P e, boundA 0 lo, boundA 0 hi with
    | some _, some l, some h => if l = 0 ∧ h = 0 then some .nilsl else none
    | _, _, _ => none
  | some (.slice e), .sl n cells =>
    match szT P e, boundA 0 lo, boundA n hi with
    | some es, some l, some h =>
      if 0 ≤ l ∧ l ≤ h ∧ h ≤ n then some (.sl (h.toNat - l.toNat) ((cells.drop (l.toNat * es)).take ((h.toNat - l.toNat) * es))) else none
    | _, _, _ => none
  | some (.slice e), .osl b off n es' =>
    match szT P e, boundA 0 lo, boundA n hi with
    | some es, some l, some h =>
      if es = es' ∧ 0 ≤ l ∧ l ≤ h ∧ h ≤ n then
        (if l = 0 ∨ l < h then some (.osl b (off + l.toNat * es) (h.toNat - l.toNat) es) else some (.sl 0 []))
      else none
    | _, _, _ => none
  | _, _ => none

def byteOf : AV → Option UInt8
  | .int .u8 n => some (UInt8.ofNat n.toNat)
  | _ => none
def bytesOf : List AV → Option (List UInt8)
  | [] => some []
  | a :: as => match byteOf a, bytesOf as with
    | some b, some bs => some (b :: bs)
    | _, _ => none

def cellsOfSlice (h : AHeap) : AV → Option (List AV)
  | .nilsl => some []
  | .sl _ cells => some cells
  | .osl b off n es =>
    match h b with
    | some (.cells cs) => if off + n * es ≤ cs.length then some ((cs.drop off).take (n * es)) else none
    | _ => none
  | _ => none

def convA (P : Program) (h : AHeap) (src dst : TypeId) (x : AV) : Option AV :=
  match P.underlying src, P.underlying dst, x with
  | some _, some (.int k), .int _ n => some (.int k (k.wrap n))
  | some _, some .string, .str s => some (.str s)
  | some _, some .string, .int _ n => some (.str (Utf8.encode n).data.toList)
  | some (.slice e), some .string, x =>
    match P.underlying e, x with
    | some (.int .u8), .sl n cells => if n = cells.length then (bytesOf cells).map .str else none
    | some (.int .u8), .osl b off n es => if es = 1 then (match cellsOfSlice h (.osl b off n es) with | some cells => (bytesOf cells).map .str | none => none) else none
    | some (.int .u8), .nilsl => some (.str [])
    | _, _ => none
  | _, _, _ => none

def splice (l : List AV) (off : Nat) (vs : List AV) : List AV := l.take off ++ vs ++ l.drop (off + vs.length)

def fillA (place : Nat → Option (Nat × Nat)) (cells : List AV) : List (Nat × AV) → Option (List AV)
  | [] => some cells
  | (i, v) :: rest =>
    match place i with
    | none => none
    | some (off, size) =>
      if v.cells.length = size ∧ off + v.cells.length ≤ cells.length ∧ v.fit = true then fillA place (splice cells off v.cells) rest else none

/-- Where the parts of a struct or an array lie, and their sizes. -/
def placesL (P : Program) (t : TypeId) : Option (List (Nat × Nat)) :=
  match P.underlying t with
  | some (.struct fields) => fields.toList.mapM (fun f => (P.info? f.type).map fun i => (f.offset, i.size))
  | some (.array n e) => (P.info? e).map fun i => (List.range n).map fun k => (k * i.size, i.size)
  | _ => none

def buildA (P : Program) (t : TypeId) (parts : List (Nat × AV)) : Option AV :=
  match zeroT P t, placesL P t with
  | some z, some pl => (fillA (fun i => pl[i]?) z parts).map .agg
  | _, _ => none

def pureA (P : Program) (t : AF) (h : AHeap) : Op → Option AV
  | .move x => some (evalA t x)
  | .assign x => some (evalA t x)
  | .pick c a b => match evalA t c with
    | .bool x => some (if x then evalA t a else evalA t b)
    | _ => none
  | .load ty a => match evalA t a with
    | .ptr b off => match h b with
      | some (.cells cs) => loadA P ty (cs.drop off)
      | _ => none
    | .fptr cells => loadA P ty cells
    | _ => none
  | .nilCheck x => match evalA t x with
    | .ptr b off => some (.ptr b off)
    | .fptr cells => some (.fptr cells)
    | _ => none
  | .binOp op ty x y _ => binA P op ty (evalA t x) (evalA t y)
  | .unOp op _ x => unA op (evalA t x)
  | .convert s d x => convA P h s d (evalA t x)
  | .makeInterface ty x => match P.underlying ty with
    | some (.interface _) => none
    | some _ => some (.iface ty (evalA t x))
    | none => none
  | .makeFunc f first caps => some (.fn f (first.toList.map (evalA t)) (caps.toList.map (evalA t)))
  | .slice ty x lo hi none => match P.underlying ty with
    | some (.array _ _) => none
    | _ => sliceA P ty (evalA t x) (lo.map (evalA t)) (hi.map (evalA t))
  | .fieldAddr s x f => fieldAddrA P s (evalA t x) f
  | .field s x f => fieldA P s (evalA t x) f
  | .indexAddr ty x i => indexAddrA P ty (evalA t x) (evalA t i)
  | .index ty x i => indexA P ty (evalA t x) (evalA t i)
  | .extract x i => match evalA t x with
    | .tup vs => vs[i]?
    | _ => none
  | .build ty parts => buildA P ty (parts.toList.map fun p => (p.1, evalA t p.2))
  | .call { callee := .builtin .len, args, argTypes } => match args.toList, argTypes.toList with
    | [x], [ty] => lenA P h ty (evalA t x)
    | _, _ => none
  | _ => none
end Go.AH
