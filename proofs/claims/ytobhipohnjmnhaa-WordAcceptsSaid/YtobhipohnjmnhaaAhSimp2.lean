/-
  Values as rewrite rules.
-/
import Derived.Test.YtobhipohnjmnhaaAhTools
set_option linter.unusedSimpArgs false
set_option linter.unusedVariables false
set_option linter.unusedSectionVars false
namespace Go.AH
open Go

@[simp] theorem loadC_true (s : Nat) (cells : List AV) : loadC true s cells = if s ≤ cells.length then some (.agg (cells.take s)) else none := nrfl rfl
@[simp] theorem loadC_false (s : Nat) (cells : List AV) : loadC false s cells = cells[0]? := by simp [loadC, List.head?_eq_getElem?]
@[simp] theorem fit_undef  : AV.undef.fit = false := nrfl rfl
@[simp] theorem one_undef  : AV.undef.one = false := nrfl rfl
@[simp] theorem cells_undef  : AV.undef.cells = [AV.undef] := nrfl rfl
@[simp] theorem fit_bool (b : Bool) : (AV.bool b).fit = true := nrfl rfl
@[simp] theorem one_bool (b : Bool) : (AV.bool b).one = true := nrfl rfl
@[simp] theorem cells_bool (b : Bool) : (AV.bool b).cells = [AV.bool b] := nrfl rfl
@[simp] theorem fit_int (k : IntKind) (n : Int) : (AV.int k n).fit = true := nrfl rfl
@[simp] theorem one_int (k : IntKind) (n : Int) : (AV.int k n).one = true := nrfl rfl
@[simp] theorem cells_int (k : IntKind) (n : Int) : (AV.int k n).cells = [AV.int k n] := nrfl rfl
@[simp] theorem fit_str (s : List UInt8) : (AV.str s).fit = true := nrfl rfl
@[simp] theorem one_str (s : List UInt8) : (AV.str s).one = true := nrfl rfl
@[simp] theorem cells_str (s : List UInt8) : (AV.str s).cells = [AV.str s] := nrfl rfl
@[simp] theorem fit_nilsl  : AV.nilsl.fit = true := nrfl rfl
@[simp] theorem one_nilsl  : AV.nilsl.one = true := nrfl rfl
@[simp] theorem cells_nilsl  : AV.nilsl.cells = [AV.nilsl] := nrfl rfl
@[simp] theorem fit_sl (n : Nat) (cs : List AV) : (AV.sl n cs).fit = true := nrfl rfl
@[simp] theorem one_sl (n : Nat) (cs : List AV) : (AV.sl n cs).one = true := nrfl rfl
@[simp] theorem cells_sl (n : Nat) (cs : List AV) : (AV.sl n cs).cells = [AV.sl n cs] := nrfl rfl
@[simp] theorem fit_osl (b off n es : Nat) : (AV.osl b off n es).fit = true := nrfl rfl
@[simp] theorem one_osl (b off n es : Nat) : (AV.osl b off n es).one = true := nrfl rfl
@[simp] theorem cells_osl (b off n es : Nat) : (AV.osl b off n es).cells = [AV.osl b off n es] := nrfl rfl
@[simp] theorem fit_nilptr  : AV.nilptr.fit = true := nrfl rfl
@[simp] theorem one_nilptr  : AV.nilptr.one = true := nrfl rfl
@[simp] theorem cells_nilptr  : AV.nilptr.cells = [AV.nilptr] := nrfl rfl
@[simp] theorem fit_ptr (b off : Nat) : (AV.ptr b off).fit = true := nrfl rfl
@[simp] theorem one_ptr (b off : Nat) : (AV.ptr b off).one = true := nrfl rfl
@[simp] theorem cells_ptr (b off : Nat) : (AV.ptr b off).cells = [AV.ptr b off] := nrfl rfl
@[simp] theorem fit_fptr (cs : List AV) : (AV.fptr cs).fit = true := nrfl rfl
@[simp] theorem one_fptr (cs : List AV) : (AV.fptr cs).one = true := nrfl rfl
@[simp] theorem cells_fptr (cs : List AV) : (AV.fptr cs).cells = [AV.fptr cs] := nrfl rfl
@[simp] theorem fit_nilmap  : AV.nilmap.fit = true := nrfl rfl
@[simp] theorem one_nilmap  : AV.nilmap.one = true := nrfl rfl
@[simp] theorem cells_nilmap  : AV.nilmap.cells = [AV.nilmap] := nrfl rfl
@[simp] theorem fit_map (b : Nat) : (AV.map b).fit = true := nrfl rfl
@[simp] theorem one_map (b : Nat) : (AV.map b).one = true := nrfl rfl
@[simp] theorem cells_map (b : Nat) : (AV.map b).cells = [AV.map b] := nrfl rfl
@[simp] theorem fit_fn (f : Fn) (fi ca : List AV) : (AV.fn f fi ca).fit = true := nrfl rfl
@[simp] theorem one_fn (f : Fn) (fi ca : List AV) : (AV.fn f fi ca).one = true := nrfl rfl
@[simp] theorem cells_fn (f : Fn) (fi ca : List AV) : (AV.fn f fi ca).cells = [AV.fn f fi ca] := nrfl rfl
@[simp] theorem fit_nilfn  : AV.nilfn.fit = true := nrfl rfl
@[simp] theorem one_nilfn  : AV.nilfn.one = true := nrfl rfl
@[simp] theorem cells_nilfn  : AV.nilfn.cells = [AV.nilfn] := nrfl rfl
@[simp] theorem fit_nilif  : AV.nilif.fit = true := nrfl rfl
@[simp] theorem one_nilif  : AV.nilif.one = true := nrfl rfl
@[simp] theorem cells_nilif  : AV.nilif.cells = [AV.nilif] := nrfl rfl
@[simp] theorem fit_iface (t : TypeId) (v : AV) : (AV.iface t v).fit = true := nrfl rfl
@[simp] theorem one_iface (t : TypeId) (v : AV) : (AV.iface t v).one = true := nrfl rfl
@[simp] theorem cells_iface (t : TypeId) (v : AV) : (AV.iface t v).cells = [AV.iface t v] := nrfl rfl
@[simp] theorem fit_agg (cs : List AV) : (AV.agg cs).fit = true := nrfl rfl
@[simp] theorem one_agg (cs : List AV) : (AV.agg cs).one = false := nrfl rfl
@[simp] theorem cells_agg (cs : List AV) : (AV.agg cs).cells = cs := nrfl rfl
@[simp] theorem fit_tup (vs : List AV) : (AV.tup vs).fit = false := nrfl rfl
@[simp] theorem one_tup (vs : List AV) : (AV.tup vs).one = false := nrfl rfl
@[simp] theorem cells_tup (vs : List AV) : (AV.tup vs).cells = [AV.tup vs] := nrfl rfl
@[simp] theorem kkOf_bool (b : Bool) : kkOf (.bool b) = some .b := nrfl rfl
@[simp] theorem kkOf_int (k : IntKind) (n : Int) : kkOf (.int k n) = some (.i k) := nrfl rfl
@[simp] theorem kkOf_str (s : List UInt8) : kkOf (.str s) = some .s := nrfl rfl
@[simp] theorem ok_one (k : KK) (a : AV) : KShape.ok (.one k) a = (kkOf a == some k) := nrfl rfl
@[simp] theorem ok_many (ks : List KK) (cs : List AV) : KShape.ok (.many ks) (.agg cs) = (cs.map kkOf == ks.map some) := nrfl rfl
section
variable {P : Program} {t : TypeId} {h : AHeap}
theorem loadA_eq {a : Bool} {s : Nat} {cells : List AV} (e1 : aggT P t = some a) (e2 : szT P t = some s) : loadA P t cells = loadC a s cells := by simp [loadA, e1, e2]
attribute [simp] loadA partA cmpA intA strA unA fieldAddrA fieldA convA ifaceA lenA indexAddrA indexA sliceA eqlA buildA zcells_one fillA byteOf bytesOf boundA rangeA sliceB
@[simp] theorem binA_shl {k k' : IntKind} {a b : Int} : binA P .shl t (.int k a) (.int k' b) = if b < 0 then none else some (.int k (k.wrap (a * 2 ^ min b.toNat k.bits))) := nrfl rfl
@[simp] theorem binA_shr {k k' : IntKind} {a b : Int} : binA P .shr t (.int k a) (.int k' b) = if b < 0 then none else some (.int k (a.fdiv (2 ^ min b.toNat k.bits))) := nrfl rfl
theorem binA_int {op : BinOp} {k : IntKind} {a b : Int} (h1 : op ≠ .shl) (h2 : op ≠ .shr) : binA P op t (.int k a) (.int k b) = intA op k a b := by
  cases op <;> simp_all [binA]
@[simp] theorem binA_add {k : IntKind} {a b : Int} : binA P .add t (.int k a) (.int k b) = some (.int k (k.wrap (a + b))) := by simp [binA]
@[simp] theorem binA_sub {k : IntKind} {a b : Int} : binA P .sub t (.int k a) (.int k b) = some (.int k (k.wrap (a - b))) := by simp [binA]
@[simp] theorem binA_mul {k : IntKind} {a b : Int} : binA P .mul t (.int k a) (.int k b) = some (.int k (k.wrap (a * b))) := by simp [binA]
@[simp] theorem binA_quo {k : IntKind} {a b : Int} : binA P .quo t (.int k a) (.int k b) = if b = 0 then none else some (.int k (k.wrap (a.tdiv b))) := by simp [binA]
@[simp] theorem binA_rem {k : IntKind} {a b : Int} : binA P .rem t (.int k a) (.int k b) = if b = 0 then none else some (.int k (a.tmod b)) := by simp [binA]
@[simp] theorem binA_and {k : IntKind} {a b : Int} : binA P .and t (.int k a) (.int k b) = some (.int k (k.wrap (BitVec.ofInt k.bits a &&& BitVec.ofInt k.bits b).toNat)) := by simp [binA]
@[simp] theorem binA_or {k : IntKind} {a b : Int} : binA P .or t (.int k a) (.int k b) = some (.int k (k.wrap (BitVec.ofInt k.bits a ||| BitVec.ofInt k.bits b).toNat)) := by simp [binA]
@[simp] theorem binA_xor {k : IntKind} {a b : Int} : binA P .xor t (.int k a) (.int k b) = some (.int k (k.wrap (BitVec.ofInt k.bits a ^^^ BitVec.ofInt k.bits b).toNat)) := by simp [binA]
@[simp] theorem binA_andNot {k : IntKind} {a b : Int} : binA P .andNot t (.int k a) (.int k b) = some (.int k (k.wrap (BitVec.ofInt k.bits a &&& ~~~BitVec.ofInt k.bits b).toNat)) := by simp [binA]
@[simp] theorem binA_eql {k : IntKind} {a b : Int} : binA P .eql t (.int k a) (.int k b) = some (.bool (decide (a = b))) := by simp [binA]
@[simp] theorem binA_neq {k : IntKind} {a b : Int} : binA P .neq t (.int k a) (.int k b) = some (.bool (!decide (a = b))) := by simp [binA]
@[simp] theorem binA_lss {k : IntKind} {a b : Int} : binA P .lss t (.int k a) (.int k b) = some (.bool (decide (a < b))) := by simp [binA]
@[simp] theorem binA_leq {k : IntKind} {a b : Int} : binA P .leq t (.int k a) (.int k b) = some (.bool (decide (a ≤ b))) := by simp [binA]
@[simp] theorem binA_gtr {k : IntKind} {a b : Int} : binA P .gtr t (.int k a) (.int k b) = some (.bool (decide (b < a))) := by simp [binA]
@[simp] theorem binA_geq {k : IntKind} {a b : Int} : binA P .geq t (.int k a) (.int k b) = some (.bool (decide (b ≤ a))) := by simp [binA]
@[simp] theorem binA_str {op : BinOp} {a b : List UInt8} : binA P op t (.str a) (.str b) = strA op a b := by cases op <;> rfl
@[simp] theorem binA_eqb {a b : Bool} : binA P .eql t (.bool a) (.bool b) = (eqlA P t (.bool a) (.bool b)).map fun b => .bool b := nrfl rfl
@[simp] theorem binA_neb {a b : Bool} : binA P .neq t (.bool a) (.bool b) = (eqlA P t (.bool a) (.bool b)).map fun b => .bool (!b) := nrfl rfl
theorem splice_one {l : List AV} {i : Nat} {v : AV} (h : i < l.length) : splice l i [v] = l.set i v := by
  simp only [splice, List.length_singleton, List.append_assoc, List.singleton_append]
  rw [List.set_eq_take_append_cons_drop, if_pos h]
theorem splice_all {l vs : List AV} (h : vs.length = l.length) : splice l 0 vs = vs := by
  simp [splice, h]
@[simp] theorem splice_box {x v : AV} : splice [x] 0 [v] = [v] := by simp [splice]
attribute [simp] splice_one splice_all
@[simp] theorem binA_eq_nilsl {x : AV} : binA P .eql t x .nilsl = (eqlA P t x .nilsl).map fun b => .bool b := by cases x <;> rfl
@[simp] theorem binA_ne_nilsl {x : AV} : binA P .neq t x .nilsl = (eqlA P t x .nilsl).map fun b => .bool (!b) := by cases x <;> rfl
@[simp] theorem binA_eq_nilptr {x : AV} : binA P .eql t x .nilptr = (eqlA P t x .nilptr).map fun b => .bool b := by cases x <;> rfl
@[simp] theorem binA_ne_nilptr {x : AV} : binA P .neq t x .nilptr = (eqlA P t x .nilptr).map fun b => .bool (!b) := by cases x <;> rfl
@[simp] theorem binA_eq_nilmap {x : AV} : binA P .eql t x .nilmap = (eqlA P t x .nilmap).map fun b => .bool b := by cases x <;> rfl
@[simp] theorem binA_ne_nilmap {x : AV} : binA P .neq t x .nilmap = (eqlA P t x .nilmap).map fun b => .bool (!b) := by cases x <;> rfl
@[simp] theorem binA_eq_nilfn {x : AV} : binA P .eql t x .nilfn = (eqlA P t x .nilfn).map fun b => .bool b := by cases x <;> rfl
@[simp] theorem binA_ne_nilfn {x : AV} : binA P .neq t x .nilfn = (eqlA P t x .nilfn).map fun b => .bool (!b) := by cases x <;> rfl
@[simp] theorem binA_eq_nilif {x : AV} : binA P .eql t x .nilif = (eqlA P t x .nilif).map fun b => .bool b := by cases x <;> rfl
@[simp] theorem binA_ne_nilif {x : AV} : binA P .neq t x .nilif = (eqlA P t x .nilif).map fun b => .bool (!b) := by cases x <;> rfl
@[simp] theorem mapGet_nil {k : AV} : mapGet [] k = none := nrfl rfl
end
end Go.AH
