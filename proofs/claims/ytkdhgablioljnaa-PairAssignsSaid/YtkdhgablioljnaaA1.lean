/-
  The layer: AhRep AhPure AhSound1 AhSound2 AhSound3 AhStep.
-/
import Derived.RangeFuncRecord
import Derived.RangeFuncCalls
import Derived.Laws.NewBlocks
import Derived.Laws.Strings
import Derived.ChangeKeysEq
import Derived.Laws.BytesArg
import Derived.Laws.Tables
set_option linter.unusedSimpArgs false
set_option linter.unusedVariables false
set_option linter.unusedSectionVars false
section
/-
  Abstract values and what they stand for in a world of the model: read-only memory is told by value, owned blocks by their numbers.
-/
namespace Go.AH
open Go

inductive AV where
  | undef
  | bool (b : Bool)
  | int (k : IntKind) (n : Int)
  | str (s : List UInt8)
  | nilsl
  | sl (n : Nat) (cells : List AV)
  | osl (b off n es : Nat)
  | nilptr
  | ptr (b off : Nat)
  | fptr (cells : List AV)
  | nilmap
  | map (b : Nat)
  | fn (f : Fn) (first caps : List AV)
  | nilfn
  | nilif
  | iface (t : TypeId) (v : AV)
  | agg (cells : List AV)
  | tup (vs : List AV)
  deriving Inhabited

/-- One cell of memory holds it. -/
def AV.one : AV → Bool
  | .undef | .agg _ | .tup _ => false
  | _ => true

def AV.cells : AV → List AV
  | .agg cs => cs
  | v => [v]

/-- The kinds of a map's keys, cell by cell. -/
inductive KK where
  | b | i (k : IntKind) | s
  deriving DecidableEq
inductive KShape where
  | one (k : KK)
  | many (ks : List KK)
  deriving DecidableEq
def kkOf : AV → Option KK
  | .bool _ => some .b
  | .int k _ => some (.i k)
  | .str _ => some .s
  | _ => none
def KShape.ok : KShape → AV → Bool
  | .one k, a => kkOf a == some k
  | .many ks, .agg cells => cells.map kkOf == ks.map some
  | _, _ => false

inductive Chunk where
  | cells (cs : List AV)
  | map (sh : KShape) (es : List (AV × AV))
  | sit (s : List UInt8) (pos : Nat)
  | loop (r : Loop) (t : Nat → AV)

def AHeap := Nat → Option Chunk
def AHeap.empty : AHeap := fun _ => none
def AHeap.upd (h : AHeap) (b : Nat) (c : Chunk) : AHeap := fun i => if i = b then some c else h i
def AHeap.del (h : AHeap) (b : Nat) : AHeap := fun i => if i = b then none else h i
def AHeap.un (h g : AHeap) : AHeap := fun i => match h i with | some c => some c | none => g i
def Disj (h g : AHeap) : Prop := ∀ b, h b = none ∨ g b = none

inductive Rep (w : World) (h : AHeap) : Value → AV → Prop
  | undef (v : Value) : Rep w h v .undef
  | bool (b : Bool) : Rep w h (.bool b) (.bool b)
  | int (k : IntKind) (n : Int) : Rep w h (.int k n) (.int k n)
  | str (s : ByteArray) : Rep w h (.string s) (.str s.data.toList)
  | nilsl : Rep w h (.slice none 0 0) .nilsl
  | sl0 (a : Option Addr) (n c : Nat) (hn : n ≤ c) : Rep w h (.slice a n c) (.sl n [])
  | sl {b off n c : Nat} {vs : Nat → Value} {cells : List AV} (hn : n ≤ c) (hb : h b = none) (hlt : b < w.heap.size)
      (hc : ∀ i, i < cells.length → w.cell? ⟨b, off + i, none⟩ = some (vs i)) (ho : ∀ x ∈ cells, x.one = true)
      (hr : ∀ i (hi : i < cells.length), Rep w h (vs i) cells[i]) : Rep w h (.slice (some ⟨b, off, none⟩) n c) (.sl n cells)
  | osl {b o off n c es : Nat} (hn : n ≤ c) (hO : (o = off ∨ c = 0) ∧ c < 2 ^ 63) (hs : ∃ (cs : Array Value) (e : TypeId) (fr : Nat × Nat), w.heap[b]? = some (Obj.cells cs e fr) ∧ off + c * es ≤ cs.size) :
      Rep w h (.slice (some ⟨b, o, none⟩) n c) (.osl b off n es)
  | nilptr : Rep w h (.pointer none) .nilptr
  | ptr (b off : Nat) : Rep w h (.pointer (some ⟨b, off, none⟩)) (.ptr b off)
  | fptr {b off : Nat} {vs : Nat → Value} {cells : List AV} (hb : h b = none) (hlt : b < w.heap.size)
      (hc : ∀ i, i < cells.length → w.cell? ⟨b, off + i, none⟩ = some (vs i)) (ho : ∀ x ∈ cells, x.one = true)
      (hr : ∀ i (hi : i < cells.length), Rep w h (vs i) cells[i]) : Rep w h (.pointer (some ⟨b, off, none⟩)) (.fptr cells)
  | nilmap : Rep w h (.map none) .nilmap
  | map (b : Nat) : Rep w h (.map (some b)) (.map b)
  | fn {f : Fn} {first caps : List Value} {fa ca : List AV} (h1 : first.length = fa.length) (h2 : caps.length = ca.length)
      (hf : ∀ i (hi : i < first.length) (hj : i < fa.length), Rep w h first[i] fa[i])
      (hc : ∀ i (hi : i < caps.length) (hj : i < ca.length), Rep w h caps[i] ca[i]) : Rep w h (.func f first.toArray caps.toArray) (.fn f fa ca)
  | nilfn : Rep w h .nilFunc .nilfn
  | nilif : Rep w h .nilIface .nilif
  | iface {t : TypeId} {v : Value} {a : AV} (hr : Rep w h v a) : Rep w h (.iface t v) (.iface t a)
  | agg {vs : List Value} {cells : List AV} (h1 : vs.length = cells.length) (ho : ∀ x ∈ cells, x.one = true)
      (hr : ∀ i (hi : i < vs.length) (hj : i < cells.length), Rep w h vs[i] cells[i]) : Rep w h (.agg vs.toArray) (.agg cells)
  | tup {vs : List Value} {cells : List AV} (h1 : vs.length = cells.length)
      (hr : ∀ i (hi : i < vs.length) (hj : i < cells.length), Rep w h vs[i] cells[i]) : Rep w h (.tuple vs.toArray) (.tup cells)

/-- Pointwise. -/
def RepL (w : World) (h : AHeap) (vs : List Value) (as : List AV) : Prop :=
  vs.length = as.length ∧ ∀ i (hi : i < vs.length) (hj : i < as.length), Rep w h vs[i] as[i]

def ChunkOk (w : World) (h : AHeap) (b : Nat) : Chunk → Prop
  | .cells cs => ∃ (vs : Array Value) (e : TypeId), w.heap[b]? = some (Obj.cells vs e (0, 0)) ∧ cs.length ≤ vs.size ∧ (∀ x ∈ cs, x.one = true) ∧
      ∀ i (hi : i < cs.length) (hj : i < vs.size), Rep w h vs[i] cs[i]
  | .map sh es => ∃ (ents : Array MapEntry) (clock : Nat), w.heap[b]? = some (.map ents clock) ∧ ents.size = es.length ∧ (∀ e ∈ es, sh.ok e.1 = true) ∧
      (∀ i (hi : i < es.length) (hj : i < ents.size), Rep w h ents[i].key es[i].1 ∧ Rep w h ents[i].val es[i].2)
  | .sit s pos => w.heap[b]? = some (.stringIter ⟨s.toArray⟩ pos)
  | .loop r t => w.heap[b]? = some (.loop r) ∧ ∀ i, Rep w h (r.tmps.getD i Go.undef) (t i)

def Rel (w : World) (h : AHeap) : Prop := ∀ b c, h b = some c → ChunkOk w h b c

structure Ext (w : World) (h : AHeap) (w' : World) (h' : AHeap) : Prop where
  size : w.heap.size ≤ w'.heap.size
  keep : ∀ b, b < w.heap.size → h b = none → h' b = none ∧ w'.heap[b]? = w.heap[b]?
  shape : ∀ (b : Nat) (cs : Array Value) (e : TypeId) (fr : Nat × Nat), w.heap[b]? = some (Obj.cells cs e fr) → ∃ (cs' : Array Value) (fr' : Nat × Nat), w'.heap[b]? = some (Obj.cells cs' e fr') ∧ cs'.size = cs.size
  os : w'.os = w.os
  tape : w'.tape = w.tape
  output : w'.output = w.output

theorem Ext.refl (w : World) (h : AHeap) : Ext w h w h :=
  ⟨Nat.le_refl _, fun _ _ hb => ⟨hb, rfl⟩, fun _ cs _ fr hc => ⟨cs, fr, hc, rfl⟩, rfl, rfl, rfl⟩

theorem Ext.trans {w1 w2 w3 : World} {h1 h2 h3 : AHeap} (a : Ext w1 h1 w2 h2) (b : Ext w2 h2 w3 h3) : Ext w1 h1 w3 h3 :=
  ⟨Nat.le_trans a.size b.size,
   fun i hi hb => by
     obtain ⟨e1, e2⟩ := a.keep i hi hb
     obtain ⟨e3, e4⟩ := b.keep i (Nat.lt_of_lt_of_le hi a.size) e1
     exact ⟨e3, e4.trans e2⟩,
   fun i cs e fr hc => by
     obtain ⟨cs1, fr1, e1, e2⟩ := a.shape i cs e fr hc
     obtain ⟨cs2, fr2, e3, e4⟩ := b.shape i cs1 e fr1 e1
     exact ⟨cs2, fr2, e3, e4.trans e2⟩,
   b.os.trans a.os, b.tape.trans a.tape, b.output.trans a.output⟩

theorem Rep.ext {w w' : World} {h h' : AHeap} (x : Ext w h w' h') {v : Value} {a : AV} (r : Rep w h v a) : Rep w' h' v a := by
  induction r with
  | undef v => exact .undef v
  | bool b => exact .bool b
  | int k n => exact .int k n
  | str s => exact .str s
  | nilsl => exact .nilsl
  | sl0 a n c hn => exact .sl0 a n c hn
  | sl hn hb hlt hc ho _ ih =>
    obtain ⟨e1, e2⟩ := x.keep _ hlt hb
    refine .sl hn e1 (Nat.lt_of_lt_of_le hlt x.size) (fun i hi => ?_) ho ih
    rw [← hc i hi]; exact World.cell?_of_block (w := w) e2
  | osl hn hO hs =>
    obtain ⟨cs, e, fr, h1, h2⟩ := hs
    obtain ⟨cs', fr', h3, h4⟩ := x.shape _ _ _ _ h1
    exact .osl hn hO ⟨cs', e, fr', h3, by omega⟩
  | nilptr => exact .nilptr
  | ptr b off => exact .ptr b off
  | fptr hb hlt hc ho _ ih =>
    obtain ⟨e1, e2⟩ := x.keep _ hlt hb
    refine .fptr e1 (Nat.lt_of_lt_of_le hlt x.size) (fun i hi => ?_) ho ih
    rw [← hc i hi]; exact World.cell?_of_block (w := w) e2
  | nilmap => exact .nilmap
  | map b => exact .map b
  | fn h1 h2 _ _ ih1 ih2 => exact .fn h1 h2 ih1 ih2
  | nilfn => exact .nilfn
  | nilif => exact .nilif
  | iface _ ih => exact .iface ih
  | agg h1 ho _ ih => exact .agg h1 ho ih
  | tup h1 _ ih => exact .tup h1 ih

theorem RepL.ext {w w' : World} {h h' : AHeap} (x : Ext w h w' h') {vs : List Value} {as : List AV} (r : RepL w h vs as) : RepL w' h' vs as :=
  ⟨r.1, fun i hi hj => (r.2 i hi hj).ext x⟩

theorem RepL.nil {w : World} {h : AHeap} : RepL w h [] [] := ⟨rfl, fun i hi => absurd hi (Nat.not_lt_zero i)⟩
theorem RepL.cons {w : World} {h : AHeap} {v : Value} {a : AV} {vs : List Value} {as : List AV} (r : Rep w h v a) (rs : RepL w h vs as) : RepL w h (v :: vs) (a :: as) :=
  ⟨by simp [rs.1], fun i hi hj => by
    cases i with
    | zero => exact r
    | succ i => exact rs.2 i (by simpa using hi) (by simpa using hj)⟩
theorem RepL.uncons {w : World} {h : AHeap} {vs : List Value} {a : AV} {as : List AV} (r : RepL w h vs (a :: as)) : ∃ v vs', vs = v :: vs' ∧ Rep w h v a ∧ RepL w h vs' as := by
  obtain ⟨h1, h2⟩ := r
  cases vs with
  | nil => simp at h1
  | cons v vs =>
    refine ⟨v, vs, rfl, h2 0 (by simp) (by simp), by simpa using h1, fun i hi hj => ?_⟩
    exact h2 (i + 1) (by simpa using hi) (by simpa using hj)
theorem RepL.append {w : World} {h : AHeap} {vs vs' : List Value} {as as' : List AV} (r : RepL w h vs as) (r' : RepL w h vs' as') : RepL w h (vs ++ vs') (as ++ as') := by
  induction vs generalizing as with
  | nil => cases as with
    | nil => exact r'
    | cons a as => exact absurd r.1 (by simp)
  | cons v vs ih =>
    cases as with
    | nil => exact absurd r.1 (by simp)
    | cons a as =>
      obtain ⟨v', vs'', e, r1, r2⟩ := r.uncons
      cases e
      exact .cons r1 (ih r2)

/-! ### The heap's algebra -/
section heap
variable {h g k : AHeap} {b b' : Nat} {c c' : Chunk}
@[simp] theorem AHeap.empty_at (b : Nat) : AHeap.empty b = none := rfl
theorem AHeap.upd_at : h.upd b c b' = if b' = b then some c else h b' := rfl
theorem AHeap.del_at : h.del b b' = if b' = b then none else h b' := rfl
@[simp] theorem AHeap.upd_same : h.upd b c b = some c := by simp [AHeap.upd]
theorem AHeap.upd_ne (e : b' ≠ b) : h.upd b c b' = h b' := by simp [AHeap.upd, e]
@[simp] theorem AHeap.del_same : h.del b b = none := by simp [AHeap.del]
theorem AHeap.del_ne (e : b' ≠ b) : h.del b b' = h b' := by simp [AHeap.del, e]
theorem AHeap.del_upd (e : h b = none) : (h.upd b c).del b = h := by
  funext i; by_cases hi : i = b <;> simp [AHeap.upd, AHeap.del, hi, e]
@[simp] theorem AHeap.upd_upd : (h.upd b c).upd b c' = h.upd b c' := by
  funext i; by_cases hi : i = b <;> simp [AHeap.upd, hi]
theorem AHeap.upd_comm (e : b ≠ b') : (h.upd b c).upd b' c' = (h.upd b' c').upd b c := by
  funext i; by_cases hi : i = b <;> by_cases hj : i = b' <;> simp [AHeap.upd, hi, hj]
  · exact absurd (hi.symm.trans hj) e
  · intro e'; exact absurd e' e
  · intro e'; exact absurd e'.symm e
theorem AHeap.del_upd_ne (e : b ≠ b') : (h.upd b c).del b' = (h.del b').upd b c := by
  funext i; by_cases hi : i = b <;> by_cases hj : i = b' <;> simp [AHeap.upd, AHeap.del, hi, hj]
  · exact absurd (hi.symm.trans hj) e
  · intro e'; exact absurd e' e
  · intro e'; exact absurd e'.symm e
@[simp] theorem AHeap.upd_del : (h.del b).upd b c = h.upd b c := by
  funext i; by_cases hi : i = b <;> simp [AHeap.upd, AHeap.del, hi]
@[simp] theorem AHeap.del_none (e : h b = none) : h.del b = h := by
  funext i; by_cases hi : i = b <;> simp [AHeap.del, hi, e]
theorem AHeap.del_empty : AHeap.empty.del b = AHeap.empty := AHeap.del_none rfl
@[simp] theorem AHeap.un_empty : h.un AHeap.empty = h := by
  funext i; simp only [AHeap.un, AHeap.empty]; cases h i <;> rfl
@[simp] theorem AHeap.empty_un : AHeap.empty.un h = h := rfl
theorem AHeap.un_at : h.un g b = match h b with | some c => some c | none => g b := rfl
theorem AHeap.un_some (e : h b = some c) : h.un g b = some c := by simp [AHeap.un, e]
theorem AHeap.un_none (e : h b = none) : h.un g b = g b := by simp [AHeap.un, e]
theorem AHeap.un_eq_none : h.un g b = none ↔ h b = none ∧ g b = none := by
  simp only [AHeap.un]; cases h b <;> simp
theorem AHeap.un_upd : (h.upd b c).un g = (h.un g).upd b c := by
  funext i; by_cases hi : i = b <;> simp [AHeap.un, AHeap.upd, hi]
theorem AHeap.un_del (e : g b = none) : (h.del b).un g = (h.un g).del b := by
  funext i; by_cases hi : i = b <;> simp [AHeap.un, AHeap.del, hi, e]
theorem AHeap.un_assoc : (h.un g).un k = h.un (g.un k) := by
  funext i; simp only [AHeap.un]; cases h i <;> rfl
theorem Disj.comm (d : Disj h g) : Disj g h := fun b => (d b).symm
theorem Disj.un_comm (d : Disj h g) : h.un g = g.un h := by
  funext i
  simp only [AHeap.un]
  rcases d i with e | e
  · rw [e]; cases g i <;> rfl
  · rw [e]; cases h i <;> rfl
theorem Disj.empty : Disj AHeap.empty g := fun _ => .inl rfl
theorem Disj.none_right (d : Disj h g) (e : h b = some c) : g b = none := by
  rcases d b with h1 | h1
  · rw [e] at h1; cases h1
  · exact h1
theorem Disj.upd (d : Disj h g) (e : g b = none) : Disj (h.upd b c) g := fun i => by
  by_cases hi : i = b
  · subst hi; exact .inr e
  · rw [AHeap.upd_ne hi]; exact d i
theorem Disj.del (d : Disj h g) : Disj (h.del b) g := fun i => by
  by_cases hi : i = b
  · subst hi; exact .inl AHeap.del_same
  · rw [AHeap.del_ne hi]; exact d i
theorem Disj.un_left (d : Disj h k) (d' : Disj g k) : Disj (h.un g) k := fun i => by
  rcases d i with e | e
  · rcases d' i with e' | e'
    · exact .inl (AHeap.un_eq_none.2 ⟨e, e'⟩)
    · exact .inr e'
  · exact .inr e
theorem Disj.of_un_left (d : Disj (h.un g) k) : Disj h k := fun i => by
  rcases d i with e | e
  · exact .inl (AHeap.un_eq_none.1 e).1
  · exact .inr e
theorem Disj.of_un_right (d : Disj (h.un g) k) : Disj g k := fun i => by
  rcases d i with e | e
  · exact .inl (AHeap.un_eq_none.1 e).2
  · exact .inr e
theorem Disj.un_right (d : Disj h g) (d' : Disj h k) : Disj h (g.un k) := (Disj.un_left d.comm d'.comm).comm
end heap
end Go.AH

end

section
/-
  Operations that compute a value and leave memory alone: what they give on abstract values.
-/
namespace Go.AH
open Go

def AF := Nat → AV
def AF.put (t : AF) (d : Nat) (v : AV) : AF := fun i => if i = d then v else t i
@[simp] theorem AF.put_same (t : AF) (d : Nat) (v : AV) : t.put d v d = v := by simp [AF.put]
theorem AF.put_ne (t : AF) (d i : Nat) (v : AV) (h : i ≠ d) : t.put d v i = t i := by simp [AF.put, h]
theorem AF.put_at (t : AF) (d i : Nat) (v : AV) : t.put d v i = if i = d then v else t i := rfl

def onSome {α : Type} (o : Option α) (K : α → Prop) : Prop := match o with | some v => K v | none => False
theorem onSome_iff {α : Type} (o : Option α) (K : α → Prop) : onSome o K ↔ ∃ v, o = some v ∧ K v := by cases o <;> simp [onSome]

def sval : Value → AV
  | .bool b => .bool b
  | .int k n => .int k n
  | .string s => .str s.data.toList
  | .slice none 0 0 => .nilsl
  | .pointer none => .nilptr
  | .map none => .nilmap
  | .nilFunc => .nilfn
  | .nilIface => .nilif
  | _ => .undef

def cval : Value → AV
  | .agg cs => if (cs.toList.map sval).all AV.one then .agg (cs.toList.map sval) else .undef
  | v => sval v

def evalA (t : AF) : Operand → AV
  | .tmp i => t i
  | .const v => cval v
  | .global _ => .undef
  | .func f => .fn (.func f) [] []

def szT (P : Program) (t : TypeId) : Option Nat := (P.info? t).map (·.size)
def aggT (P : Program) (t : TypeId) : Option Bool := (P.underlying t).map fun | .struct _ => true | .array _ _ => true | _ => false
def zeroT (P : Program) (t : TypeId) : Option (List AV) :=
  match (P.info? t).bind (·.zero) with
  | some z => match cval z with
    | .undef => none
    | a => some a.cells
  | none => none
def bytesT (P : Program) (t : TypeId) : Option Nat := (P.info? t).map (·.bytes)
def foT (P : Program) (s : TypeId) (f : Nat) : Option (Nat × TypeId) :=
  match P.underlying s with
  | some (.struct fields) => (fields[f]?).map fun fd => (fd.offset, fd.type)
  | _ => none

def AV.fit : AV → Bool
  | .undef | .tup _ => false
  | _ => true

def loadC (a : Bool) (s : Nat) (cells : List AV) : Option AV :=
  if a then (if s ≤ cells.length then some (.agg (cells.take s)) else none) else cells.head?

def loadA (P : Program) (t : TypeId) (cells : List AV) : Option AV :=
  match aggT P t, szT P t with
  | some a, some s => loadC a s cells
  | _, _ => none

def cmpA (op : BinOp) (a b : Int) : Option AV :=
  match op with
  | .eql => some (.bool (decide (a = b)))
  | .neq => some (.bool (!decide (a = b)))
  | .lss => some (.bool (decide (a < b)))
  | .leq => some (.bool (decide (a ≤ b)))
  | .gtr => some (.bool (decide (b < a)))
  | .geq => some (.bool (decide (b ≤ a)))
  | _ => none

def intA (op : BinOp) (k : IntKind) (a b : Int) : Option AV :=
  match op with
  | .add => some (.int k (k.wrap (a + b)))
  | .sub => some (.int k (k.wrap (a - b)))
  | .mul => some (.int k (k.wrap (a * b)))
  | .quo => if b = 0 then none else some (.int k (k.wrap (a.tdiv b)))
  | .rem => if b = 0 then none else some (.int k (a.tmod b))
  | .and => some (.int k (k.wrap (BitVec.ofInt k.bits a &&& BitVec.ofInt k.bits b).toNat))
  | .or => some (.int k (k.wrap (BitVec.ofInt k.bits a ||| BitVec.ofInt k.bits b).toNat))
  | .xor => some (.int k (k.wrap (BitVec.ofInt k.bits a ^^^ BitVec.ofInt k.bits b).toNat))
  | .andNot => some (.int k (k.wrap (BitVec.ofInt k.bits a &&& ~~~BitVec.ofInt k.bits b).toNat))
  | _ => cmpA op a b

def strA (op : BinOp) (a b : List UInt8) : Option AV :=
  match op with
  | .add => if a.length + b.length < 2 ^ 62 then some (.str (a ++ b)) else none
  | .eql => some (.bool (decide (a = b)))
  | .neq => some (.bool (!decide (a = b)))
  | .lss => some (.bool (Op.bytesLess a b))
  | .leq => some (.bool (Op.bytesLess a b || decide (a = b)))
  | .gtr => some (.bool (!(Op.bytesLess a b || decide (a = b))))
  | .geq => some (.bool (!Op.bytesLess a b))
  | _ => none

/-- Equality of what is no number and no string. -/
def eqlA (P : Program) (t : TypeId) (x y : AV) : Option Bool :=
  match P.underlying t, x, y with
  | some .bool, .bool a, .bool b => some (a == b)
  | some (.pointer _), .nilptr, .nilptr => some true
  | some (.pointer _), .nilptr, .ptr _ _ => some false
  | some (.pointer _), .ptr _ _, .nilptr => some false
  | some (.pointer _), .nilptr, .fptr _ => some false
  | some (.pointer _), .fptr _, .nilptr => some false
  | some (.slice _), .nilsl, .nilsl => some true
  | some (.slice _), .nilsl, .osl .. => some false
  | some (.slice _), .osl .., .nilsl => some false
  | some (.slice _), .nilsl, .sl _ (_ :: _) => some false
  | some (.slice _), .sl _ (_ :: _), .nilsl => some false
  | some (.map _ _), .nilmap, .nilmap => some true
  | some (.map _ _), .nilmap, .map _ => some false
  | some (.map _ _), .map _, .nilmap => some false
  | some (.func _ _ _), .nilfn, .nilfn => some true
  | some (.func _ _ _), .nilfn, .fn .. => some false
  | some (.func _ _ _), .fn .., .nilfn => some false
  | some (.interface _), .nilif, .iface _ _ => some false
  | some (.interface _), .iface _ _, .nilif => some false
  | _, _, _ => none

/-- An array type of numbers: how many, of which kind. -/
def arrEqT (P : Program) (t : TypeId) : Option (Nat × IntKind) := match P.underlying t with
  | some (.array n e) => match P.underlying e with
    | some (.int k) => if szT P e = some 1 then some (n, k) else none
    | _ => none
  | _ => none
def intsEq (k : IntKind) : List AV → List AV → Option Bool
  | [], [] => some true
  | .int k1 a :: as, .int k2 b :: bs => if k1 = k ∧ k2 = k then (intsEq k as bs).map fun r => decide (a = b) && r else none
  | _, _ => none
/-- Equality of arrays of numbers. -/
def aggA (P : Program) (op : BinOp) (t : TypeId) (as bs : List AV) : Option AV := match arrEqT P t with
  | some (n, k) => if as.length = n then
      (match op with
        | .eql => (intsEq k as bs).map fun b => .bool b
        | .neq => (intsEq k as bs).map fun b => .bool (!b)
        | _ => none) else none
  | none => none
def binA (P : Program) (op : BinOp) (t : TypeId) (x y : AV) : Option AV :=
  match x, y with
  | .int k a, .int k' b =>
    match op with
    | .shl => if b < 0 then none else some (.int k (k.wrap (a * 2 ^ min b.toNat k.bits)))
    | .shr => if b < 0 then none else some (.int k (a.fdiv (2 ^ min b.toNat k.bits)))
    | _ => if k = k' then intA op k a b else none
  | .str a, .str b => strA op a b
  | .agg as, .agg bs => aggA P op t as bs
  | x, y =>
    match op with
    | .eql => (eqlA P t x y).map fun b => .bool b
    | .neq => (eqlA P t x y).map fun b => .bool (!b)
    | _ => none

def unA (op : UnOp) (x : AV) : Option AV :=
  match op, x with
  | .neg, .int k n => some (.int k (k.wrap (0 - n)))
  | .not, .bool b => some (.bool !b)
  | .xor, .int k n => intA .xor k (if k.signed then -1 else k.max) n
  | _, _ => none

def indexAddrA (P : Program) (t : TypeId) (x i : AV) : Option AV :=
  match i with
  | .int _ i =>
    match P.underlying t, x with
    | some (.slice e), .sl n cells =>
      match szT P e with
      | some es => if 0 ≤ i ∧ i < n ∧ i.toNat * es < cells.length then some (.fptr (cells.drop (i.toNat * es))) else none
      | none => none
    | some (.slice e), .osl b off n _ =>
      match szT P e with
      | some es => if 0 ≤ i ∧ i < n then some (.ptr b (off + i.toNat * es)) else none
      | none => none
    | some (.array len e), .ptr b off =>
      match szT P e with
      | some es => if 0 ≤ i ∧ i < len then some (.ptr b (off + i.toNat * es)) else none
      | none => none
    | some (.array len e), .fptr cells =>
      match szT P e with
      | some es => if 0 ≤ i ∧ i < len then some (.fptr (cells.drop (i.toNat * es))) else none
      | none => none
    | _, _ => none
  | _ => none

def partA (P : Program) (t : TypeId) (cells : List AV) (off : Nat) : Option AV := loadA P t (cells.drop off)

def indexA (P : Program) (t : TypeId) (x i : AV) : Option AV :=
  match i with
  | .int _ i =>
    match P.underlying t, x with
    | some (.array len e), .agg cells =>
      match szT P e with
      | some es => if 0 ≤ i ∧ i < len then partA P e cells (i.toNat * es) else none
      | none => none
    | some .string, .str s => if 0 ≤ i then (s[i.toNat]?).map fun b => .int .u8 b.toNat else none
    | _, _ => none
  | _ => none

def fieldAddrA (P : Program) (s : TypeId) (x : AV) (f : Nat) : Option AV :=
  match foT P s f with
  | some (off, ft) =>
    match szT P ft with
    | some n =>
      if n = 0 then none else
      match x with
      | .ptr b o => some (.ptr b (o + off))
      | .fptr cells => some (.fptr (cells.drop off))
      | _ => none
    | none => none
  | none => none

def fieldA (P : Program) (s : TypeId) (x : AV) (f : Nat) : Option AV :=
  match foT P s f, x with
  | some (off, ft), .agg cells => partA P ft cells off
  | _, _ => none

def lenA (P : Program) (h : AHeap) (t : TypeId) (x : AV) : Option AV :=
  match P.underlying t, x with
  | some .string, .str s => some (.int .i64 s.length)
  | some (.slice _), .nilsl => some (.int .i64 0)
  | some (.slice _), .sl n _ => some (.int .i64 n)
  | some (.slice _), .osl _ _ n _ => some (.int .i64 n)
  | some (.array n _), _ => some (.int .i64 n)
  | some (.map _ _), .nilmap => some (.int .i64 0)
  | some (.map _ _), .map b =>
    match h b with
    | some (.map _ es) => some (.int .i64 es.length)
    | _ => none
  | _, _ => none

/-- An optional bound of a slice expression. -/
def boundA (d : Int) : Option AV → Option Int
  | none => some d
  | some (.int _ i) => some i
  | _ => none

def sliceA (P : Program) (t : TypeId) (x : AV) (lo hi : Option AV) : Option AV :=
  match P.underlying t, x with
  | some .string, .str s =>
    match boundA 0 lo, boundA s.length hi with
    | some l, some h => if 0 ≤ l ∧ l ≤ h ∧ h ≤ s.length then some (.str ((s.drop l.toNat).take (h.toNat - l.toNat))) else none
    | _, _ => none
  | some (.slice e), .nilsl =>
    match szT P e, boundA 0 lo, boundA 0 hi with
    | some _, some l, some h => if l = 0 ∧ h = 0 then some .nilsl else none
    | _, _, _ => none
  | some (.slice e), .sl n cells =>
    match szT P e, boundA 0 lo, boundA n hi with
    | some es, some l, some h =>
      if 0 ≤ l ∧ l ≤ h ∧ h ≤ n then some (.sl (h.toNat - l.toNat) ((cells.drop (l.toNat * es)).take ((h.toNat - l.toNat) * es))) else none
    | _, _, _ => none
  | some (.slice e), .osl b off n es' =>
    match szT P e, boundA 0 lo, boundA n hi with
    | some es, some l, some h =>
      if es = es' ∧ 0 ≤ l ∧ l ≤ h ∧ h ≤ n then
        some (.osl b (off + l.toNat * es) (h.toNat - l.toNat) es)
      else none
    | _, _, _ => none
  | _, _ => none

/-- A slice with a bound for what is behind it. -/
def slice3A (P : Program) (t : TypeId) (x : AV) (lo hi : Option AV) (mx : AV) : Option AV :=
  match P.underlying t, x, hi, mx with
  | some (.slice _), .sl n _, some (.int _ h), .int _ m => if h ≤ m ∧ m ≤ n then sliceA P t x lo hi else none
  | some (.slice _), .osl _ _ n _, some (.int _ h), .int _ m => if h ≤ m ∧ m ≤ n then sliceA P t x lo hi else none
  | _, _, _, _ => none

/-- A slice of an array: of one's own, or of one that is told by value. -/
def arrSliceA (P : Program) (h : AHeap) (n : Nat) (e : TypeId) (x : AV) (lo hi : Option AV) : Option AV :=
  match szT P e, boundA 0 lo, boundA n hi with
  | some es, some l, some u =>
    if 0 ≤ l ∧ l ≤ u ∧ u ≤ n then
      match x with
      | .fptr cells => some (.sl (u.toNat - l.toNat) ((cells.drop (l.toNat * es)).take ((u.toNat - l.toNat) * es)))
      | .ptr b off => match h b with
        | some (.cells cs) => if off + n * es ≤ cs.length ∧ n < 2 ^ 63 then (if l = 0 ∨ l < u then some (.osl b (off + l.toNat * es) (u.toNat - l.toNat) es) else some (.sl 0 [])) else none
        | _ => none
      | _ => none
    else none
  | _, _, _ => none

def byteOf : AV → Option UInt8
  | .int .u8 n => some (UInt8.ofNat n.toNat)
  | _ => none
def bytesOf : List AV → Option (List UInt8)
  | [] => some []
  | a :: as => match byteOf a, bytesOf as with
    | some b, some bs => some (b :: bs)
    | _, _ => none

def cellsOfSlice (h : AHeap) : AV → Option (List AV)
  | .nilsl => some []
  | .sl _ cells => some cells
  | .osl b off n es =>
    match h b with
    | some (.cells cs) => if off + n * es ≤ cs.length then some ((cs.drop off).take (n * es)) else none
    | _ => none
  | _ => none

def convA (P : Program) (h : AHeap) (src dst : TypeId) (x : AV) : Option AV :=
  match P.underlying src, P.underlying dst, x with
  | some _, some (.int k), .int _ n => some (.int k (k.wrap n))
  | some _, some .string, .str s => some (.str s)
  | some _, some .string, .int _ n => some (.str (Utf8.encode n).data.toList)
  | some (.slice e), some .string, x =>
    match P.underlying e, x with
    | some (.int .u8), .sl n cells => if n = cells.length then (bytesOf cells).map .str else none
    | some (.int .u8), .osl b off n es => if es = 1 then (match cellsOfSlice h (.osl b off n es) with | some cells => (bytesOf cells).map .str | none => none) else none
    | some (.int .u8), .nilsl => some (.str [])
    | _, _ => none
  | _, _, _ => none

def splice (l : List AV) (off : Nat) (vs : List AV) : List AV := l.take off ++ vs ++ l.drop (off + vs.length)

def fillA (place : Nat → Option (Nat × Nat)) (cells : List AV) : List (Nat × AV) → Option (List AV)
  | [] => some cells
  | (i, v) :: rest =>
    match place i with
    | none => none
    | some (off, size) =>
      if v.cells.length = size ∧ off + v.cells.length ≤ cells.length ∧ v.fit = true then fillA place (splice cells off v.cells) rest else none

/-- Where the parts of a struct or an array lie, and their sizes. -/
def placesL (P : Program) (t : TypeId) : Option (List (Nat × Nat)) :=
  match P.underlying t with
  | some (.struct fields) => fields.toList.mapM (fun f => (P.info? f.type).map fun i => (f.offset, i.size))
  | some (.array n e) => (P.info? e).map fun i => (List.range n).map fun k => (k * i.size, i.size)
  | _ => none

def buildA (P : Program) (t : TypeId) (parts : List (Nat × AV)) : Option AV :=
  match zeroT P t, placesL P t with
  | some z, some pl => (fillA (fun i => pl[i]?) z parts).map .agg
  | _, _ => none

def pureA (P : Program) (t : AF) (h : AHeap) : Op → Option AV
  | .move x => some (evalA t x)
  | .assign x => some (evalA t x)
  | .pick c a b => match evalA t c with
    | .bool x => some (if x then evalA t a else evalA t b)
    | _ => none
  | .load ty a => match evalA t a with
    | .ptr b off => match h b with
      | some (.cells cs) => loadA P ty (cs.drop off)
      | _ => none
    | .fptr cells => loadA P ty cells
    | _ => none
  | .nilCheck x => match evalA t x with
    | .ptr b off => some (.ptr b off)
    | .fptr cells => some (.fptr cells)
    | _ => none
  | .binOp op ty x y _ => binA P op ty (evalA t x) (evalA t y)
  | .unOp op _ x => unA op (evalA t x)
  | .convert s d x => convA P h s d (evalA t x)
  | .makeInterface ty x => match P.underlying ty with
    | some (.interface _) => none
    | some _ => some (.iface ty (evalA t x))
    | none => none
  | .makeFunc f first caps => some (.fn f (first.toList.map (evalA t)) (caps.toList.map (evalA t)))
  | .slice ty x lo hi none => match P.underlying ty with
    | some (.array n e) => arrSliceA P h n e (evalA t x) (lo.map (evalA t)) (hi.map (evalA t))
    | _ => sliceA P ty (evalA t x) (lo.map (evalA t)) (hi.map (evalA t))
  | .slice ty x lo hi (some m) => slice3A P ty (evalA t x) (lo.map (evalA t)) (hi.map (evalA t)) (evalA t m)
  | .fieldAddr s x f => fieldAddrA P s (evalA t x) f
  | .field s x f => fieldA P s (evalA t x) f
  | .indexAddr ty x i => indexAddrA P ty (evalA t x) (evalA t i)
  | .index ty x i => indexA P ty (evalA t x) (evalA t i)
  | .extract x i => match evalA t x with
    | .tup vs => vs[i]?
    | _ => none
  | .build ty parts => buildA P ty (parts.toList.map fun p => (p.1, evalA t p.2))
  | .call { callee := .builtin .len, args, argTypes } => match args.toList, argTypes.toList with
    | [x], [ty] => lenA P h ty (evalA t x)
    | _, _ => none
  | _ => none
end Go.AH

end

section
/-
  What an operation gives on abstract values is what it gives in the model: operations that leave memory alone.
-/
namespace Go.AH
open Go

section
variable {P : Program} {w : World} {g h : AHeap}

theorem add_none (b off i : Nat) : Addr.add ⟨b, off, none⟩ i = ⟨b, off + i, none⟩ := by
  unfold Addr.add; split
  · next e => simp [e]
  · rfl

theorem oneCell_of {v : Value} {a : AV} (r : Rep w g v a) (ho : a.one = true) : v.oneCell' = true := by
  cases r <;> simp_all [AV.one, Value.oneCell']

theorem run_sizeOf {t : TypeId} {s : Nat} (e : szT P t = some s) : (sizeOf t).run P w = .ok s w := by
  unfold szT at e
  cases hi : P.info? t with
  | none => simp [hi] at e
  | some i => simp only [hi, Option.map_some, Option.some.injEq] at e; simp [sizeOf, typeInfo, hi, e]

theorem run_underlying' {t : TypeId} {d : TypeDesc} (e : P.underlying t = some d) : (underlying t).run P w = .ok d w := by
  simp [underlying, e]

theorem run_isAgg {t : TypeId} {a : Bool} (e : aggT P t = some a) : (isAgg t).run P w = .ok a w := by
  unfold aggT at e
  cases hi : P.underlying t with
  | none => simp [hi] at e
  | some d =>
    simp only [hi, Option.map_some, Option.some.injEq] at e
    unfold isAgg
    rw [Sem.run_bind, run_underlying' hi]
    cases d <;> simp_all

theorem run_loadCellsFrom {b off : Nat} {vs : Nat → Value} : ∀ (n i : Nat) (acc : Array Value), (∀ j, i ≤ j → j < i + n → w.cell? ⟨b, off + j, none⟩ = some (vs j)) →
    (loadCellsFrom ⟨b, off, none⟩ i n acc).run P w = .ok (acc ++ ((List.range' i n).map vs).toArray) w
  | 0, i, acc, _ => by simp [loadCellsFrom]
  | n + 1, i, acc, H => by
    have h0 := H i (Nat.le_refl _) (by omega)
    have ih := run_loadCellsFrom n (i + 1) (acc.push (vs i)) (fun j h1 h2 => H j (by omega) (by omega))
    simp only [loadCellsFrom, Sem.run_bind, run_load, add_none, h0, Result.andThen, ih]
    simp [List.range'_succ]

theorem run_loadCells {b off n : Nat} {vs : Nat → Value} (H : ∀ j, j < n → w.cell? ⟨b, off + j, none⟩ = some (vs j)) :
    (loadCells ⟨b, off, none⟩ n).run P w = .ok ((List.range n).map vs).toArray w := by
  have := run_loadCellsFrom (P := P) (w := w) (b := b) (off := off) (vs := vs) n 0 #[] (fun j _ h2 => H j (by omega))
  simpa [loadCells, List.range_eq_range'] using this

/-- Cells from an address on that stand for abstract values. -/
def Cells (w : World) (g : AHeap) (b off : Nat) (cells : List AV) : Prop :=
  (∀ x ∈ cells, x.one = true) ∧ ∃ vs : Nat → Value, (∀ i, i < cells.length → w.cell? ⟨b, off + i, none⟩ = some (vs i)) ∧ ∀ i (hi : i < cells.length), Rep w g (vs i) cells[i]

theorem Cells.drop {b off : Nat} {cells : List AV} (c : Cells w g b off cells) (k : Nat) : Cells w g b (off + k) (cells.drop k) := by
  obtain ⟨ho, vs, h1, h2⟩ := c
  refine ⟨fun x hx => ho x (List.mem_of_mem_drop hx), fun i => vs (k + i), fun i hi => ?_, fun i hi => ?_⟩
  · rw [List.length_drop] at hi
    rw [Nat.add_assoc]; exact h1 (k + i) (by omega)
  · simp only [List.getElem_drop]
    exact h2 (k + i) (by rw [List.length_drop] at hi; omega)

theorem Cells.take {b off : Nat} {cells : List AV} (c : Cells w g b off cells) (k : Nat) : Cells w g b off (cells.take k) := by
  obtain ⟨ho, vs, h1, h2⟩ := c
  refine ⟨fun x hx => ho x (List.mem_of_mem_take hx), vs, fun i hi => ?_, fun i hi => ?_⟩
  · rw [List.length_take] at hi; exact h1 i (by omega)
  · rw [List.length_take] at hi
    simp only [List.getElem_take]
    exact h2 i (by omega)

theorem Rel.cells (R : Rel w g) {b : Nat} {cs : List AV} (e : g b = some (.cells cs)) : Cells w g b 0 cs := by
  obtain ⟨vs, ty, h1, h2, h3, h4⟩ := R b _ e
  refine ⟨h3, fun i => vs.getD i undef, fun i hi => ?_, fun i hi => ?_⟩
  · have : i < vs.size := by omega
    simp [World.cell?, h1, this]
  · have : i < vs.size := by omega
    simpa [this] using h4 i hi this

theorem cells_of_fptr {v : Value} {cells : List AV} (r : Rep w g v (.fptr cells)) : ∃ b off, v = .pointer (some ⟨b, off, none⟩) ∧ g b = none ∧ b < w.heap.size ∧ Cells w g b off cells := by
  cases r with
  | fptr hb hlt hc ho hr => exact ⟨_, _, rfl, hb, hlt, ho, _, hc, hr⟩

theorem cells_of_sl {v : Value} {n : Nat} {cells : List AV} (r : Rep w g v (.sl n cells)) (hne : cells ≠ []) :
    ∃ b off c, v = .slice (some ⟨b, off, none⟩) n c ∧ n ≤ c ∧ g b = none ∧ b < w.heap.size ∧ Cells w g b off cells := by
  cases r with
  | sl0 => exact absurd rfl hne
  | sl hn hb hlt hc ho hr => exact ⟨_, _, _, rfl, hn, hb, hlt, ho, _, hc, hr⟩

theorem rep_fptr {b off : Nat} {cells : List AV} (hb : g b = none) (hlt : b < w.heap.size) (c : Cells w g b off cells) : Rep w g (.pointer (some ⟨b, off, none⟩)) (.fptr cells) := by
  obtain ⟨ho, vs, h1, h2⟩ := c
  exact .fptr hb hlt h1 ho h2

theorem rep_sl {b off n c : Nat} {cells : List AV} (hn : n ≤ c) (hb : g b = none) (hlt : b < w.heap.size) (hc : Cells w g b off cells) : Rep w g (.slice (some ⟨b, off, none⟩) n c) (.sl n cells) := by
  obtain ⟨ho, vs, h1, h2⟩ := hc
  exact .sl hn hb hlt h1 ho h2

theorem rep_agg {w : World} {g : AHeap} {vs : List Value} {cells : List AV} (h1 : vs.length = cells.length) (ho : ∀ x ∈ cells, x.one = true)
    (hr : ∀ i (hi : i < vs.length) (hj : i < cells.length), Rep w g vs[i] cells[i]) : Rep w g (.agg vs.toArray) (.agg cells) := .agg h1 ho hr

theorem run_loadVar {b off : Nat} {cells : List AV} (c : Cells w g b off cells) {t : TypeId} {r : AV} (e : loadA P t cells = some r) :
    ∃ v, (loadVar t ⟨b, off, none⟩).run P w = .ok v w ∧ Rep w g v r := by
  unfold loadA at e
  split at e
  · next a s ha hs =>
    obtain ⟨ho, vs, h1, h2⟩ := c
    cases a with
    | true =>
      simp only [loadC, if_true] at e
      split at e
      · next hle =>
        simp only [Option.some.injEq] at e
        subst e
        refine ⟨.agg ((List.range s).map vs).toArray, ?_, ?_⟩
        · simp only [loadVar, Sem.run_bind, run_isAgg ha, Result.andThen, if_true, run_sizeOf hs, run_loadCells (P := P) (w := w) (n := s) (vs := vs) (fun j hj => h1 j (by omega)), Sem.run_pure]
        · refine .agg (by simp; omega) (fun x hx => ho x (List.mem_of_mem_take hx)) (fun i hi hj => ?_)
          simp only [List.getElem_map, List.getElem_range, List.getElem_take]
          exact h2 i (by simp at hj; omega)
      · cases e
    | false =>
      simp only [loadC, Bool.false_eq_true, if_false] at e
      cases cells with
      | nil => simp at e
      | cons x xs =>
        simp only [List.head?_cons, Option.some.injEq] at e
        subst e
        refine ⟨vs 0, ?_, h2 0 (by simp)⟩
        have := h1 0 (by simp)
        simp only [Nat.add_zero] at this
        simp only [loadVar, Sem.run_bind, run_isAgg ha, Result.andThen, Bool.false_eq_true, if_false, run_load, this]
  · cases e

theorem sval_rep (v : Value) : Rep w g v (sval v) := by
  unfold sval
  split <;> first
    | exact .bool _ | exact .int _ _ | exact .str _ | exact .nilsl | exact .nilptr | exact .nilmap | exact .nilfn | exact .nilif | exact .undef _

theorem cval_rep (v : Value) : Rep w g v (cval v) := by
  unfold cval
  split
  · next cs =>
    split
    · next hall =>
      have e : cs = cs.toList.toArray := by simp
      rw [e]
      refine .agg (by simp) (fun x hx => ?_) (fun i hi hj => ?_)
      · rw [List.all_eq_true] at hall; exact hall x (by simpa using hx)
      · simp only [List.getElem_map]
        exact sval_rep _
    · exact .undef _
  · exact sval_rep _

/-- A frame and what it stands for. -/
def RepF (w : World) (g : AHeap) (tmps : Array Value) (t : AF) : Prop := ∀ i, Rep w g (tmps.getD i Go.undef) (t i)

theorem RepF.ext {w' : World} {g' : AHeap} (x : Ext w g w' g') {tmps : Array Value} {t : AF} (r : RepF w g tmps t) : RepF w' g' tmps t := fun i => (r i).ext x

theorem RepF.eval {a : Act} {t : AF} (r : RepF w g a.tmps t) (x : Operand) : Rep w g (a.eval x) (evalA t x) := by
  cases x with
  | tmp i => exact r i
  | const v => exact cval_rep v
  | global b => exact .undef _
  | func f =>
    have : Rep w g (.func (.func f) ([] : List Value).toArray ([] : List Value).toArray) (.fn (.func f) [] []) := .fn rfl rfl (fun i hi => absurd hi (Nat.not_lt_zero i)) (fun i hi => absurd hi (Nat.not_lt_zero i))
    exact this

theorem RepF.put {tmps : Array Value} {t : AF} (r : RepF w g tmps t) {d : Nat} (hd : d < tmps.size) {v : Value} {x : AV} (hv : Rep w g v x) :
    RepF w g (tmps.setIfInBounds d v) (t.put d x) := fun i => by
  by_cases hi : i = d
  · subst hi
    simpa [hd] using hv
  · rw [AF.put_ne _ _ _ _ hi]
    have := r i
    have e : (tmps.setIfInBounds d v).getD i Go.undef = tmps.getD i Go.undef := by
      simp [Array.getD_eq_getD_getElem?, Ne.symm hi]
    rwa [e]

/-! ### Inversions -/
theorem Rep.inv_bool {v : Value} {b : Bool} (r : Rep w g v (.bool b)) : v = .bool b := by cases r; rfl
theorem Rep.inv_int {v : Value} {k : IntKind} {n : Int} (r : Rep w g v (.int k n)) : v = .int k n := by cases r; rfl
theorem Rep.inv_str {v : Value} {l : List UInt8} (r : Rep w g v (.str l)) : ∃ s : ByteArray, v = .string s ∧ s.data.toList = l := by cases r; exact ⟨_, rfl, rfl⟩
theorem Rep.inv_nilsl {v : Value} (r : Rep w g v .nilsl) : v = .slice none 0 0 := by cases r; rfl
theorem Rep.inv_nilptr {v : Value} (r : Rep w g v .nilptr) : v = .pointer none := by cases r; rfl
theorem Rep.inv_ptr {v : Value} {b off : Nat} (r : Rep w g v (.ptr b off)) : v = .pointer (some ⟨b, off, none⟩) := by cases r; rfl
theorem Rep.inv_map {v : Value} {b : Nat} (r : Rep w g v (.map b)) : v = .map (some b) := by cases r; rfl
theorem Rep.inv_nilmap {v : Value} (r : Rep w g v .nilmap) : v = .map none := by cases r; rfl
theorem Rep.inv_nilfn {v : Value} (r : Rep w g v .nilfn) : v = .nilFunc := by cases r; rfl
theorem Rep.inv_nilif {v : Value} (r : Rep w g v .nilif) : v = .nilIface := by cases r; rfl
theorem Rep.inv_iface {v : Value} {t : TypeId} {a : AV} (r : Rep w g v (.iface t a)) : ∃ x, v = .iface t x ∧ Rep w g x a := by cases r with | iface hr => exact ⟨_, rfl, hr⟩
theorem Rep.inv_osl {v : Value} {b off n es : Nat} (r : Rep w g v (.osl b off n es)) : ∃ c o, v = .slice (some ⟨b, o, none⟩) n c ∧ n ≤ c ∧ ((o = off ∨ c = 0) ∧ c < 2 ^ 63) ∧
    ∃ (cs : Array Value) (e : TypeId) (fr : Nat × Nat), w.heap[b]? = some (Obj.cells cs e fr) ∧ off + c * es ≤ cs.size := by
  cases r with | osl hn hO hs => exact ⟨_, _, rfl, hn, hO, hs⟩
/-- The cells that a slice of one's own tells of. -/
theorem Rep.osl_cells {v : Value} {b off n es : Nat} {cs : List AV} (r : Rep w g v (.osl b off n es)) (R : Rel w g) (hb : g b = some (.cells cs)) : ∃ c o, v = .slice (some ⟨b, o, none⟩) n c ∧ n ≤ c ∧ Cells w g b o ((cs.drop off).take (n * es)) := by
  obtain ⟨c, o, rfl, hn, hO, _⟩ := r.inv_osl
  refine ⟨c, o, rfl, hn, ?_⟩
  rcases hO.1 with rfl | rfl
  · have hcl := ((Rel.cells R hb).drop o).take (n * es)
    rw [Nat.zero_add] at hcl
    exact hcl
  · obtain rfl : n = 0 := by omega
    rw [Nat.zero_mul, List.take_zero]
    exact ⟨by simp, fun _ => Go.undef, by simp, by simp⟩
theorem Rep.inv_sl {v : Value} {n : Nat} {cells : List AV} (r : Rep w g v (.sl n cells)) : ∃ a c, v = .slice a n c ∧ n ≤ c := by
  cases r with
  | sl0 _ _ _ hn => exact ⟨_, _, rfl, hn⟩
  | sl hn => exact ⟨_, _, rfl, hn⟩
theorem Rep.inv_agg {v : Value} {cells : List AV} (r : Rep w g v (.agg cells)) : ∃ vs : List Value, v = .agg vs.toArray ∧ vs.length = cells.length ∧ (∀ x ∈ cells, x.one = true) ∧ RepL w g vs cells := by
  cases r with | agg h1 ho hr => exact ⟨_, rfl, h1, ho, h1, hr⟩
theorem Rep.inv_tup {v : Value} {cells : List AV} (r : Rep w g v (.tup cells)) : ∃ vs : List Value, v = .tuple vs.toArray ∧ RepL w g vs cells := by
  cases r with | tup h1 hr => exact ⟨_, rfl, h1, hr⟩
theorem Rep.inv_fn {v : Value} {f : Fn} {fa ca : List AV} (r : Rep w g v (.fn f fa ca)) : ∃ first caps : List Value, v = .func f first.toArray caps.toArray ∧ RepL w g first fa ∧ RepL w g caps ca := by
  cases r with | fn h1 h2 hf hc => exact ⟨_, _, rfl, ⟨h1, hf⟩, ⟨h2, hc⟩⟩

/-- The cells of a value, as the model counts them. -/
theorem Rep.cells {v : Value} {a : AV} (r : Rep w g v a) (hf : a.fit = true) : RepL w g v.cells.toList a.cells ∧ ∀ x ∈ a.cells, x.one = true := by
  cases r with
  | undef => simp [AV.fit] at hf
  | tup => simp [AV.fit] at hf
  | agg h1 ho hr => exact ⟨⟨h1, hr⟩, ho⟩
  | bool b => exact ⟨.cons (.bool b) .nil, by simp [AV.cells, AV.one]⟩
  | int k n => exact ⟨.cons (.int k n) .nil, by simp [AV.cells, AV.one]⟩
  | str s => exact ⟨.cons (.str s) .nil, by simp [AV.cells, AV.one]⟩
  | nilsl => exact ⟨.cons .nilsl .nil, by simp [AV.cells, AV.one]⟩
  | sl0 a n c hn => exact ⟨.cons (.sl0 a n c hn) .nil, by simp [AV.cells, AV.one]⟩
  | sl hn hb hlt hc ho hr => exact ⟨.cons (.sl hn hb hlt hc ho hr) .nil, by simp [AV.cells, AV.one]⟩
  | osl hn hO hs => exact ⟨.cons (.osl hn hO hs) .nil, by simp [AV.cells, AV.one]⟩
  | nilptr => exact ⟨.cons .nilptr .nil, by simp [AV.cells, AV.one]⟩
  | ptr b off => exact ⟨.cons (.ptr b off) .nil, by simp [AV.cells, AV.one]⟩
  | fptr hb hlt hc ho hr => exact ⟨.cons (.fptr hb hlt hc ho hr) .nil, by simp [AV.cells, AV.one]⟩
  | nilmap => exact ⟨.cons .nilmap .nil, by simp [AV.cells, AV.one]⟩
  | map b => exact ⟨.cons (.map b) .nil, by simp [AV.cells, AV.one]⟩
  | fn h1 h2 h3 h4 => exact ⟨.cons (.fn h1 h2 h3 h4) .nil, by simp [AV.cells, AV.one]⟩
  | nilfn => exact ⟨.cons .nilfn .nil, by simp [AV.cells, AV.one]⟩
  | nilif => exact ⟨.cons .nilif .nil, by simp [AV.cells, AV.one]⟩
  | iface hr => exact ⟨.cons (.iface hr) .nil, by simp [AV.cells, AV.one]⟩
end
end Go.AH

end

section
/-
  Soundness: arithmetic, comparisons, addresses, slices, conversions.
-/
namespace Go.AH
open Go

section
variable {P : Program} {w : World} {g : AHeap}

theorem cmpA_sound {op : BinOp} {a b : Int} {r : AV} (e : cmpA op a b = some r) : ∃ v, (Op.intCmp op a b).run P w = .ok v w ∧ Rep w g v r := by
  unfold cmpA at e
  split at e <;> (try cases e) <;> refine ⟨_, rfl, ?_⟩
  · exact .bool (decide (a = b))
  · exact .bool (!decide (a = b))
  · exact .bool (decide (a < b))
  · exact .bool (decide (a ≤ b))
  · exact .bool (decide (b < a))
  · exact .bool (decide (b ≤ a))

theorem intA_sound {op : BinOp} {k : IntKind} {a b : Int} {r : AV} (hs : op ≠ .shl) (hs' : op ≠ .shr) (e : intA op k a b = some r) (ty : TypeId) :
    ∃ v, (binOp op ty (.int k a) (.int k b)).run P w = .ok v w ∧ Rep w g v r := by
  cases op <;> simp only [ne_eq, not_true, reduceCtorEq, not_false_eq_true] at hs hs'
  case add => simp only [intA, Option.some.injEq] at e; subst e; exact ⟨_, by simp [binOp, Op.intArith], .int _ _⟩
  case sub => simp only [intA, Option.some.injEq] at e; subst e; exact ⟨_, by simp [binOp, Op.intArith], .int _ _⟩
  case mul => simp only [intA, Option.some.injEq] at e; subst e; exact ⟨_, by simp [binOp, Op.intArith], .int _ _⟩
  case quo =>
    simp only [intA] at e
    split at e
    · cases e
    · next hb => simp only [Option.some.injEq] at e; subst e; exact ⟨_, by simp [binOp, Op.intDiv, hb], .int _ _⟩
  case rem =>
    simp only [intA] at e
    split at e
    · cases e
    · next hb => simp only [Option.some.injEq] at e; subst e; exact ⟨_, by simp [binOp, Op.intDiv, hb], .int _ _⟩
  case and => simp only [intA, Option.some.injEq] at e; subst e; exact ⟨_, by simp [binOp, Op.intBits], .int _ _⟩
  case or => simp only [intA, Option.some.injEq] at e; subst e; exact ⟨_, by simp [binOp, Op.intBits], .int _ _⟩
  case xor => simp only [intA, Option.some.injEq] at e; subst e; exact ⟨_, by simp [binOp, Op.intBits], .int _ _⟩
  case andNot => simp only [intA, Option.some.injEq] at e; subst e; exact ⟨_, by simp [binOp, Op.intBits], .int _ _⟩
  case eql =>
    obtain ⟨v, h1, h2⟩ := cmpA_sound (P := P) (w := w) (g := g) (op := .eql) e
    exact ⟨v, by simpa [binOp] using h1, h2⟩
  case neq =>
    obtain ⟨v, h1, h2⟩ := cmpA_sound (P := P) (w := w) (g := g) (op := .neq) e
    exact ⟨v, by simpa [binOp] using h1, h2⟩
  case lss =>
    obtain ⟨v, h1, h2⟩ := cmpA_sound (P := P) (w := w) (g := g) (op := .lss) e
    exact ⟨v, by simpa [binOp] using h1, h2⟩
  case leq =>
    obtain ⟨v, h1, h2⟩ := cmpA_sound (P := P) (w := w) (g := g) (op := .leq) e
    exact ⟨v, by simpa [binOp] using h1, h2⟩
  case gtr =>
    obtain ⟨v, h1, h2⟩ := cmpA_sound (P := P) (w := w) (g := g) (op := .gtr) e
    exact ⟨v, by simpa [binOp] using h1, h2⟩
  case geq =>
    obtain ⟨v, h1, h2⟩ := cmpA_sound (P := P) (w := w) (g := g) (op := .geq) e
    exact ⟨v, by simpa [binOp] using h1, h2⟩

theorem toList_eq (s : ByteArray) : s.toList = s.data.toList := ByteArray.toList_eq s

theorem strA_sound {op : BinOp} {a b : ByteArray} {r : AV} (e : strA op a.data.toList b.data.toList = some r) :
    ∃ v, (Op.stringOp op a b).run P w = .ok v w ∧ Rep w g v r := by
  unfold strA at e
  have eqd : (a.toList == b.toList) = decide (a.data.toList = b.data.toList) := by rw [toList_eq, toList_eq, Bool.eq_iff_iff]; simp
  split at e
  · split at e
    · next hlen =>
      simp only [Option.some.injEq] at e; subst e
      have h1 : ¬ (((a.size + b.size : Nat) : Int) > IntKind.i64.max) := by
        simp only [Array.length_toList] at hlen
        have h3 : a.data.size = a.size := rfl
        have h4 : b.data.size = b.size := rfl
        simp only [IntKind.max, IntKind.signed, IntKind.bits, if_true]
        rw [h3, h4] at hlen
        omega
      refine ⟨.string (a ++ b), ?_, ?_⟩
      · simp only [Op.stringOp]
        rw [if_neg h1]; rfl
      · have : (a ++ b).data.toList = a.data.toList ++ b.data.toList := by simp
        rw [← this]; exact .str _
    · cases e
  all_goals first
    | (cases e; refine ⟨_, rfl, ?_⟩; rw [eqd]; first | exact .bool _ | (rw [toList_eq, toList_eq]; exact .bool _))
    | (cases e; refine ⟨_, rfl, ?_⟩; rw [toList_eq, toList_eq]; exact .bool _)
    | cases e

theorem eqGuard_none {op : BinOp} {ty : TypeId} {x y : Operand} {a b : Value} (h1 : ¬ (a = .nilIface ∧ b = .nilIface)) (h2 : ∀ as bs, ¬ (a = .agg as ∧ b = .agg bs)) :
    (eqGuard op ty x y a b).run P w = .ok () w := by
  unfold eqGuard
  simp only [Sem.run_ite]
  split
  case h_3 => rw [if_pos (by simp)]; rfl
  all_goals
    rw [if_neg (by simp)]
    split
    · exact absurd ⟨rfl, rfl⟩ h1
    · exact absurd ⟨rfl, rfl⟩ (h2 _ _)
    · rfl

theorem eqlA_sound {ty : TypeId} {x y : AV} {b : Bool} {vx vy : Value} (rx : Rep w g vx x) (ry : Rep w g vy y) (e : eqlA P ty x y = some b) :
    (Op.equal ty vx vy).run P w = .ok b w ∧ ¬ (vx = .nilIface ∧ vy = .nilIface) ∧ (∀ as bs, ¬ (vx = .agg as ∧ vy = .agg bs)) ∧
      (∀ k n, vx ≠ .int k n) ∧ (∀ s, vx ≠ .string s) ∧ (∀ k n, vx ≠ .float k n) ∧ (∀ k n m, vx ≠ .complex k n m) := by
  unfold eqlA at e
  split at e <;> (try cases e) <;> (
    rename_i hu
    rw [Op.equal, show Op.maxDepth = 9999 + 1 from rfl, Op.equalIn, Sem.run_bind, run_underlying' hu]
    simp only [Result.andThen]
    cases rx; cases ry
    simp)

theorem binOp_eql {ty : TypeId} {vx vy : Value} {b : Bool} (h : (Op.equal ty vx vy).run P w = .ok b w)
    (h1 : ∀ k n, vx ≠ .int k n) (h2 : ∀ s, vx ≠ .string s) (h3 : ∀ k n, vx ≠ .float k n) (h4 : ∀ k n m, vx ≠ .complex k n m) :
    (binOp .eql ty vx vy).run P w = .ok (.bool b) w ∧ (binOp .neq ty vx vy).run P w = .ok (.bool !b) w := by
  constructor <;>
  · unfold binOp
    split
    all_goals first
      | (exact absurd rfl (h1 _ _)) | (exact absurd rfl (h2 _)) | (exact absurd rfl (h3 _ _)) | (exact absurd rfl (h4 _ _ _))
      | (simp only [Sem.run_bind, h, Result.andThen, Sem.run_pure]; done)
      | (exfalso; simp_all; done)
      | skip

theorem intsEq_len {k : IntKind} : ∀ {as bs : List AV} {b : Bool}, intsEq k as bs = some b → as.length = bs.length
  | [], [], _, _ => rfl
  | a :: as, c :: bs, b, e => by
    unfold intsEq at e
    split at e
    · next h _ => cases h
    · next h1 h2 =>
      cases h1; cases h2
      split at e
      · obtain ⟨r, hr, _⟩ := Option.map_eq_some_iff.1 e
        simp [intsEq_len hr]
      · cases e
    · cases e
  | [], _ :: _, _, e => by simp [intsEq] at e
  | _ :: _, [], _, e => by unfold intsEq at e; split at e <;> first | (next h _ => cases h) | (next _ h => cases h) | cases e
theorem part_int {e : TypeId} {k : IntKind} (hu : P.underlying e = some (.int k)) {xs : Array Value} {i : Nat} {x : Value} (hx : xs[i]? = some x) : (part e xs i).run P w = .ok x w := by
  unfold part
  have ha : aggT P e = some false := by unfold aggT; rw [hu]; rfl
  simp [Sem.run_bind, run_isAgg ha, Result.andThen, hx]
theorem run_eqInts {e : TypeId} {k : IntKind} (hu : P.underlying e = some (.int k)) (d : Nat) : ∀ (as bs : List AV) (vs us : List Value) (j : Nat) (b : Bool) (VS US : Array Value), intsEq k as bs = some b → RepL w g vs as → RepL w g us bs →
    (∀ i, i < vs.length → VS[j + i]? = vs[i]?) → (∀ i, i < us.length → US[j + i]? = us[i]?) → (Op.eqItems (d + 1) e 1 VS US (List.range' j as.length)).run P w = .ok b w
  | [], [], _, _, j, b, VS, US, h, _, _, _, _ => by simp only [intsEq, Option.some.injEq] at h; subst h; simp [Op.eqItems]
  | a :: as, c :: bs, vs, us, j, b, VS, US, h, r1, r2, h1, h2 => by
    unfold intsEq at h
    split at h
    · next q _ => cases q
    · next k1 x as' k2 y bs' q1 q2 =>
      cases q1; cases q2
      split at h
      · next hk =>
        obtain ⟨rfl, rfl⟩ := hk
        obtain ⟨r, hr, rfl⟩ := Option.map_eq_some_iff.1 h
        obtain ⟨v, vs', rfl, rv, rvs⟩ := r1.uncons
        obtain ⟨u, us', rfl, ru, rus⟩ := r2.uncons
        have hv := rv.inv_int
        have hw := ru.inv_int
        subst hv; subst hw
        have p1 := part_int (P := P) (w := w) hu (xs := VS) (i := j) (x := .int k2 x) (by have := h1 0 (by simp); simpa using this)
        have p2 := part_int (P := P) (w := w) hu (xs := US) (i := j) (x := .int k2 y) (by have := h2 0 (by simp); simpa using this)
        have ih := run_eqInts hu d as bs vs' us' (j + 1) r VS US hr rvs rus (fun i hi => by have := h1 (i + 1) (by simp; omega); simpa [Nat.add_assoc, Nat.add_comm 1 i] using this) (fun i hi => by have := h2 (i + 1) (by simp; omega); simpa [Nat.add_assoc, Nat.add_comm 1 i] using this)
        have q : (Op.equalIn (d + 1) e (.int k2 x) (.int k2 y)).run P w = .ok (x == y) w := by simp [Op.equalIn, run_underlying' hu]
        simp only [List.length_cons, List.range'_succ, Op.eqItems, Nat.mul_one, Sem.run_bind, p1, p2, Result.andThen, q]
        by_cases hxy : x = y
        · subst hxy; simpa using ih
        · simp [hxy]
      · cases h
    · cases h
  | [], _ :: _, _, _, _, _, _, _, h, _, _, _, _ => by simp [intsEq] at h
  | _ :: _, [], _, _, _, _, _, _, h, _, _, _, _ => by unfold intsEq at h; split at h <;> first | (next q _ => cases q) | (next _ q => cases q) | cases h
theorem aggA_sound {op : BinOp} {ty : TypeId} {as bs : List AV} {r : AV} {vx vy : Value} (ox oy : Operand) (rx : Rep w g vx (.agg as)) (ry : Rep w g vy (.agg bs)) (e : aggA P op ty as bs = some r) :
    ∃ v, (do eqGuard op ty ox oy vx vy; binOp op ty vx vy : Sem Value).run P w = .ok v w ∧ Rep w g v r := by
  unfold aggA at e
  split at e
  · next n k ht =>
    unfold arrEqT at ht
    split at ht
    · next n' el hu =>
      split at ht
      · next k' hk =>
        split at ht
        · next hs =>
          cases ht
          split at e
          · next hl =>
            obtain ⟨vs, rfl, h1, h2, r1⟩ := rx.inv_agg
            obtain ⟨us, rfl, h3, h4, r2⟩ := ry.inv_agg
            have eq : ∀ b, intsEq k as bs = some b → (Op.equal ty (.agg vs.toArray) (.agg us.toArray)).run P w = .ok b w := by
              intro b hb
              cases hi : P.info? el with
              | none => simp [szT, hi] at hs
              | some i =>
                have hsz : P.cellsOf el = 1 := by simp [szT, hi] at hs; simp [Program.cellsOf, hi, hs]
                rw [Op.equal, show Op.maxDepth = 9999 + 1 from rfl, run_equalIn_array w 9999 vs.toArray us.toArray hu hi, hsz, List.range_eq_range', ← hl]
                exact run_eqInts hk 9998 as bs vs us 0 b _ _ hb r1 r2 (fun i _ => by simp) (fun i _ => by simp)
            have gd : ∀ op' : BinOp, (eqGuard op' ty ox oy (.agg vs.toArray) (.agg us.toArray)).run P w = .ok () w := by
              intro op'
              have hg : P.eqGuardType P.depth ty = false := by
                show P.eqGuardType ((2 * (P.types.size + Made.depth) + 1) + 1) ty = false
                simp only [Program.eqGuardType, hu]
                show P.eqGuardType ((2 * (P.types.size + Made.depth)) + 1) el = false
                simp only [Program.eqGuardType, hk]
              cases op' <;> simp [eqGuard, hg, Result.andThen]
            simp only [Sem.run_bind, gd, Result.andThen]
            split at e
            · obtain ⟨b, hb, rfl⟩ := Option.map_eq_some_iff.1 e
              exact ⟨_, (binOp_eql (eq b hb) (by simp) (by simp) (by simp) (by simp)).1, .bool _⟩
            · obtain ⟨b, hb, rfl⟩ := Option.map_eq_some_iff.1 e
              exact ⟨_, (binOp_eql (eq b hb) (by simp) (by simp) (by simp) (by simp)).2, .bool _⟩
            · cases e
          · cases e
        · cases ht
      · cases ht
    · cases ht
  · cases e

theorem binA_sound {op : BinOp} {ty : TypeId} {x y : AV} {r : AV} {vx vy : Value} (ox oy : Operand) (rx : Rep w g vx x) (ry : Rep w g vy y) (e : binA P op ty x y = some r) :
    ∃ v, (do eqGuard op ty ox oy vx vy; binOp op ty vx vy : Sem Value).run P w = .ok v w ∧ Rep w g v r := by
  unfold binA at e
  split at e
  · next k a k' b =>
    rw [rx.inv_int, ry.inv_int]
    simp only [Sem.run_bind]
    rw [eqGuard_none (by simp) (by simp)]
    simp only [Result.andThen]
    split at e
    · split at e
      · cases e
      · next hb => simp only [Option.some.injEq] at e; subst e; exact ⟨_, by simp [binOp, Op.shift, hb], .int _ _⟩
    · split at e
      · cases e
      · next hb => simp only [Option.some.injEq] at e; subst e; exact ⟨_, by simp [binOp, Op.shift, hb], .int _ _⟩
    · next h1 h2 =>
      split at e
      · next hk => subst hk; exact intA_sound (fun h => h1 h) (fun h => h2 h) e ty
      · cases e
  · next a b =>
    obtain ⟨s, rfl, rfl⟩ := rx.inv_str
    obtain ⟨s', rfl, rfl⟩ := ry.inv_str
    simp only [Sem.run_bind]
    rw [eqGuard_none (by simp) (by simp)]
    simp only [Result.andThen]
    obtain ⟨v, h1, h2⟩ := strA_sound (P := P) (w := w) (g := g) e
    exact ⟨v, by simpa [binOp] using h1, h2⟩
  · exact aggA_sound ox oy rx ry e
  · split at e
    · cases hb : eqlA P ty x y with
      | none => rw [hb] at e; cases e
      | some b =>
        rw [hb] at e
        simp only [Option.map_some, Option.some.injEq] at e
        subst e
        obtain ⟨q1, q2, q3, q4, q5, q6, q7⟩ := eqlA_sound rx ry hb
        simp only [Sem.run_bind]
        rw [eqGuard_none q2 q3]
        simp only [Result.andThen]
        exact ⟨_, (binOp_eql q1 q4 q5 q6 q7).1, .bool _⟩
    · cases hb : eqlA P ty x y with
      | none => rw [hb] at e; cases e
      | some b =>
        rw [hb] at e
        simp only [Option.map_some, Option.some.injEq] at e
        subst e
        obtain ⟨q1, q2, q3, q4, q5, q6, q7⟩ := eqlA_sound rx ry hb
        simp only [Sem.run_bind]
        rw [eqGuard_none q2 q3]
        simp only [Result.andThen]
        exact ⟨_, (binOp_eql q1 q4 q5 q6 q7).2, .bool _⟩
    · cases e

theorem unA_sound {op : UnOp} {x r : AV} {vx : Value} (rx : Rep w g vx x) (e : unA op x = some r) : ∃ v, (Op.unary op vx).run P w = .ok v w ∧ Rep w g v r := by
  unfold unA at e
  split at e
  · cases e; rw [rx.inv_int]; exact ⟨_, rfl, .int _ _⟩
  · cases e; rw [rx.inv_bool]; exact ⟨_, rfl, .bool _⟩
  · rw [rx.inv_int]
    simp only [intA, Option.some.injEq] at e
    subst e
    exact ⟨_, by simp [Op.unary, Op.intBits], .int _ _⟩
  · cases e

theorem run_asIntOf {k : IntKind} {n : Int} : (asIntOf (.int k n)).run P w = .ok (k, n) w := rfl

theorem indexAddrA_sound {t : TypeId} {x i r : AV} {vx vi : Value} (rx : Rep w g vx x) (ri : Rep w g vi i) (e : indexAddrA P t x i = some r) :
    ∃ v, (Instr.indexAt t vx vi).run P w = .ok v w ∧ Rep w g v r := by
  unfold indexAddrA at e
  split at e
  · next k i =>
    rw [ri.inv_int]
    split at e
    · next el n cells hu =>
      split at e
      · next es hs =>
        split at e
        · next hc =>
          obtain ⟨c1, c2, c3⟩ := hc
          cases e
          have hne : cells ≠ [] := by rintro rfl; simp at c3
          obtain ⟨b, off, c, rfl, _, hb, hlt, hcl⟩ := cells_of_sl rx hne
          refine ⟨.pointer (some ⟨b, off + i.toNat * es, none⟩), ?_, rep_fptr hb hlt (hcl.drop _)⟩
          simp only [Instr.indexAt, Sem.run_bind, run_asIntOf, Result.andThen, run_underlying' hu, Sem.run_pure]
          rw [if_pos ⟨c1, c2⟩]
          simp only [Sem.run_bind, run_sizeOf hs, Result.andThen, Sem.run_pure, add_none]
        · cases e
      · cases e
    · next el b off n es' hu =>
      split at e
      · next es hs =>
        split at e
        · next hc =>
          cases e
          obtain ⟨c, o, rfl, hn, hO, _⟩ := rx.inv_osl
          obtain rfl : o = off := hO.1.resolve_right (by omega)
          refine ⟨.pointer (some ⟨b, o + i.toNat * es, none⟩), ?_, .ptr _ _⟩
          simp only [Instr.indexAt, Sem.run_bind, run_asIntOf, Result.andThen, run_underlying' hu, Sem.run_pure]
          rw [if_pos hc]
          simp only [Sem.run_bind, run_sizeOf hs, Result.andThen, Sem.run_pure, add_none]
        · cases e
      · cases e
    · next len el b off hu =>
      split at e
      · next es hs =>
        split at e
        · next hc =>
          cases e
          rw [rx.inv_ptr]
          refine ⟨.pointer (some ⟨b, off + i.toNat * es, none⟩), ?_, .ptr _ _⟩
          simp only [Instr.indexAt, Sem.run_bind, run_asIntOf, Result.andThen, run_underlying' hu, Sem.run_pure, Instr.sureAddr]
          rw [if_pos hc]
          simp only [Sem.run_bind, run_sizeOf hs, Result.andThen, Sem.run_pure, add_none]
        · cases e
      · cases e
    · next len el cells hu =>
      split at e
      · next es hs =>
        split at e
        · next hc =>
          cases e
          obtain ⟨b, off, rfl, hb, hlt, hcl⟩ := cells_of_fptr rx
          refine ⟨.pointer (some ⟨b, off + i.toNat * es, none⟩), ?_, rep_fptr hb hlt (hcl.drop _)⟩
          simp only [Instr.indexAt, Sem.run_bind, run_asIntOf, Result.andThen, run_underlying' hu, Sem.run_pure, Instr.sureAddr]
          rw [if_pos hc]
          simp only [Sem.run_bind, run_sizeOf hs, Result.andThen, Sem.run_pure, add_none]
        · cases e
      · cases e
    · cases e
  · cases e

theorem partA_sound {t : TypeId} {cells : List AV} {off : Nat} {r : AV} {vs : List Value} (rs : RepL w g vs cells) (ho : ∀ x ∈ cells, x.one = true) (e : partA P t cells off = some r) :
    ∃ v, (part t vs.toArray off).run P w = .ok v w ∧ Rep w g v r := by
  unfold partA loadA at e
  obtain ⟨hlen, hr⟩ := rs
  split at e
  · next a s ha hs =>
    cases a with
    | true =>
      simp only [loadC, if_true, List.length_drop] at e
      split at e
      · next hle =>
        simp only [Option.some.injEq] at e
        subst e
        refine ⟨.agg ((vs.drop off).take s).toArray, ?_, ?_⟩
        · simp only [part, Sem.run_bind, run_isAgg ha, Result.andThen, if_true, run_sizeOf hs, Sem.run_pure]
          congr 2
          simp [List.extract_eq_take_drop]
        · refine .agg (by simp [hlen]) (fun x hx => ho x (List.mem_of_mem_drop (List.mem_of_mem_take hx))) (fun i hi hj => ?_)
          simp only [List.getElem_take, List.getElem_drop]
          exact hr _ _ _
      · cases e
    | false =>
      simp only [loadC, Bool.false_eq_true, if_false, List.head?_drop] at e
      obtain ⟨h1, h2⟩ := List.getElem?_eq_some_iff.1 e
      subst h2
      have h3 : off < vs.length := by omega
      refine ⟨vs[off], ?_, hr off h3 h1⟩
      simp only [part, Sem.run_bind, run_isAgg ha, Result.andThen, Bool.false_eq_true, if_false, List.getElem?_toArray, h3, List.getElem?_eq_getElem, Sem.run_pure]
  · cases e

theorem indexA_sound {t : TypeId} {x i r : AV} {vx vi : Value} (rx : Rep w g vx x) (ri : Rep w g vi i) (e : indexA P t x i = some r) :
    ∃ v, (Instr.index t vx vi).run P w = .ok v w ∧ Rep w g v r := by
  unfold indexA at e
  split at e
  · next k i =>
    rw [ri.inv_int]
    split at e
    · next len el cells hu =>
      split at e
      · next es hs =>
        split at e
        · next hc =>
          obtain ⟨vs, rfl, h1, h2, h3⟩ := rx.inv_agg
          obtain ⟨v, h4, h5⟩ := partA_sound (P := P) h3 h2 e
          refine ⟨v, ?_, h5⟩
          simp only [Instr.index, Sem.run_bind, run_asIntOf, Result.andThen, run_underlying' hu]
          rw [if_pos hc]
          simp only [Sem.run_bind, run_sizeOf hs, Result.andThen, h4]
        · cases e
      · cases e
    · next s hu =>
      split at e
      · next hc =>
        obtain ⟨b, rfl, rfl⟩ := rx.inv_str
        cases hb : b.data.toList[i.toNat]? with
        | none => rw [hb] at e; cases e
        | some c =>
          rw [hb] at e
          simp only [Option.map_some, Option.some.injEq] at e
          subst e
          refine ⟨.int .u8 c.toNat, ?_, .int _ _⟩
          have : b[i.toNat]? = some c := by
            rw [← hb]; simp [getElem?_def]; rfl
          simp only [Instr.index, Sem.run_bind, run_asIntOf, Result.andThen, run_underlying' hu, hc, if_true, this, Sem.run_pure]
      · cases e
    · cases e
  · cases e

theorem fieldAddrA_sound {s : TypeId} {x r : AV} {f : Nat} {vx : Value} (rx : Rep w g vx x) (e : fieldAddrA P s x f = some r) :
    ∃ v, (Instr.fieldAt s vx f).run P w = .ok v w ∧ Rep w g v r := by
  unfold fieldAddrA at e
  split at e
  · next off ft hf =>
    split at e
    · next n hn =>
      split at e
      · cases e
      · next hn0 =>
        unfold foT at hf
        split at hf
        · next fields hu =>
          cases hfd : fields[f]? with
          | none => rw [hfd] at hf; cases hf
          | some fd =>
            rw [hfd] at hf
            simp only [Option.map_some, Option.some.injEq, Prod.mk.injEq] at hf
            obtain ⟨rfl, rfl⟩ := hf
            split at e
            · next b o =>
              cases e
              rw [rx.inv_ptr]
              refine ⟨.pointer (some ⟨b, o + fd.offset, none⟩), ?_, .ptr _ _⟩
              simp only [Instr.fieldAt, Sem.run_bind, run_underlying' hu, Result.andThen, hfd, Instr.sureAddr, Sem.run_pure, fieldPlace, run_sizeOf hn, hn0, if_false, add_none]
            · next cells =>
              cases e
              obtain ⟨b, o, rfl, hb, hlt, hcl⟩ := cells_of_fptr rx
              refine ⟨.pointer (some ⟨b, o + fd.offset, none⟩), ?_, rep_fptr hb hlt (hcl.drop _)⟩
              simp only [Instr.fieldAt, Sem.run_bind, run_underlying' hu, Result.andThen, hfd, Instr.sureAddr, Sem.run_pure, fieldPlace, run_sizeOf hn, hn0, if_false, add_none]
            · cases e
        · cases hf
    · cases e
  · cases e

theorem fieldA_sound {s : TypeId} {x r : AV} {f : Nat} {vx : Value} (rx : Rep w g vx x) (e : fieldA P s x f = some r) :
    ∃ v, (Instr.field s vx f).run P w = .ok v w ∧ Rep w g v r := by
  unfold fieldA at e
  split at e
  · next off ft cells hf =>
    unfold foT at hf
    split at hf
    · next fields hu =>
      cases hfd : fields[f]? with
      | none => rw [hfd] at hf; cases hf
      | some fd =>
        rw [hfd] at hf
        simp only [Option.map_some, Option.some.injEq, Prod.mk.injEq] at hf
        obtain ⟨rfl, rfl⟩ := hf
        obtain ⟨vs, rfl, h1, h2, h3⟩ := rx.inv_agg
        obtain ⟨v, h4, h5⟩ := partA_sound (P := P) h3 h2 e
        exact ⟨v, by simp only [Instr.field, Sem.run_bind, run_underlying' hu, Result.andThen, hfd, asAgg, Sem.run_pure, h4], h5⟩
    · cases hf
  · cases e

theorem lenA_sound (R : Rel w g) {h : AHeap} (hsub : ∀ b c, h b = some c → g b = some c) {t : TypeId} {x r : AV} {vx : Value} (ts : Array TypeId) (rt : TypeId) (ht : ts[0]? = some t) (rx : Rep w g vx x) (e : lenA P h t x = some r) :
    ∃ v, (Builtin.len_ ts rt #[vx]).run P w = .ok v w ∧ Rep w g v r := by
  unfold lenA at e
  split at e
  · next s hu => cases e; obtain ⟨b, rfl, rfl⟩ := rx.inv_str; exact ⟨_, by simp [Builtin.len_, ht, run_underlying' hu]; rfl, by rw [show b.data.toList.length = b.size from by simp]; exact .int _ _⟩
  · next el hu => cases e; rw [rx.inv_nilsl]; exact ⟨_, by simp [Builtin.len_, ht, run_underlying' hu]; rfl, .int _ _⟩
  · next el n cells hu => cases e; obtain ⟨a, c, rfl, _⟩ := rx.inv_sl; exact ⟨_, by simp [Builtin.len_, ht, run_underlying' hu]; rfl, .int _ _⟩
  · next el b off n es hu => cases e; obtain ⟨c, o, rfl, _⟩ := rx.inv_osl; exact ⟨_, by simp [Builtin.len_, ht, run_underlying' hu]; rfl, .int _ _⟩
  · next n el hu => cases e; exact ⟨_, by simp [Builtin.len_, ht, run_underlying' hu]; rfl, .int _ _⟩
  · next k el hu => cases e; rw [rx.inv_nilmap]; exact ⟨_, by simp [Builtin.len_, ht, run_underlying' hu]; rfl, .int _ _⟩
  · next k el b hu =>
    split at e
    · next sh es hb =>
      cases e
      rw [rx.inv_map]
      obtain ⟨ents, clock, h1, h2, _⟩ := R b _ (hsub _ _ hb)
      exact ⟨_, by simp [Builtin.len_, ht, run_underlying' hu, getObj, Sem.run, h1]; rfl, by rw [h2]; exact .int _ _⟩
    · cases e
  · cases e
end
end Go.AH

end

section
/-
  Soundness: slices of slices and strings, conversions, aggregates; all pure operations together.
-/
namespace Go.AH
open Go

section
variable {P : Program} {w : World} {g : AHeap}

theorem run_sliceBound {k : IntKind} {i : Int} {y : Nat} {code : BoundsCode} (h0 : 0 ≤ i) (h1 : i ≤ y) : (Instr.sliceBound (.int k i) y code).run P w = .ok i.toNat w := by
  simp only [Instr.sliceBound, Sem.run_bind, run_asIntOf, Result.andThen]
  rw [if_pos ⟨h0, h1⟩]; rfl

theorem run_sliceBounds {sl : Bool} {len cap : Nat} {lo hi : Option Value} {l h : Int} (hl : (lo = none ∧ l = 0) ∨ ∃ k, lo = some (.int k l)) (hh : (hi = none ∧ h = len) ∨ ∃ k, hi = some (.int k h))
    (c1 : 0 ≤ l) (c2 : l ≤ h) (c3 : h ≤ cap) : (Instr.sliceBounds sl len cap lo hi none).run P w = .ok (l.toNat, h.toNat, cap) w := by
  have c2' : l ≤ (h.toNat : Int) := by omega
  rcases hl with ⟨rfl, rfl⟩ | ⟨k, rfl⟩ <;> rcases hh with ⟨rfl, rfl⟩ | ⟨k', rfl⟩
  · simp [Instr.sliceBounds]
  · simp [Instr.sliceBounds, run_sliceBound (show 0 ≤ h by omega) c3]
  · simp [Instr.sliceBounds, run_sliceBound c1 c2]
  · simp [Instr.sliceBounds, run_sliceBound (show 0 ≤ h by omega) c3, run_sliceBound c1 c2']

theorem boundA_rep {d i : Int} {o : Option AV} {v : Option Value} (r : match o, v with | none, none => True | some a, some x => Rep w g x a | _, _ => False) (e : boundA d o = some i) :
    (v = none ∧ i = d) ∨ ∃ k, v = some (.int k i) := by
  cases o with
  | none => cases v with
    | none => simp only [boundA, Option.some.injEq] at e; exact .inl ⟨rfl, e.symm⟩
    | some x => exact r.elim
  | some a => cases v with
    | none => exact r.elim
    | some x =>
      cases a <;> simp [boundA] at e
      subst e
      exact .inr ⟨_, by rw [Rep.inv_int r]⟩

theorem repO {ρ : Operand → Value} {t : AF} (hρ : ∀ x, Rep w g (ρ x) (evalA t x)) (o : Option Operand) :
    match o.map (evalA t), o.map ρ with | none, none => True | some a, some x => Rep w g x a | _, _ => False := by
  cases o with
  | none => trivial
  | some x => exact hρ x

theorem arrSliceA_sound (R : Rel w g) {h : AHeap} (hsub : ∀ b c, h b = some c → g b = some c) {t e : TypeId} {n : Nat} (hu : P.underlying t = some (.array n e)) {x r : AV} {lo hi : Option AV} {vlo vhi : Option Value} {vx : Value} (rx : Rep w g vx x)
    (rl : match lo, vlo with | none, none => True | some a, some x => Rep w g x a | _, _ => False) (rh : match hi, vhi with | none, none => True | some a, some x => Rep w g x a | _, _ => False)
    (e0 : arrSliceA P h n e x lo hi = some r) : ∃ v, (Instr.sliceAt t vx vlo vhi none).run P w = .ok v w ∧ Rep w g v r := by
  unfold arrSliceA at e0
  split at e0
  · next es l u hs hl hh =>
    split at e0
    · next hc =>
      obtain ⟨c1, c2, c3⟩ := hc
      have e1 := boundA_rep rl hl
      have e2 := boundA_rep rh hh
      split at e0
      · next cells =>
        cases e0
        obtain ⟨b, off, rfl, hb, hlt, hcl⟩ := cells_of_fptr rx
        refine ⟨_, by simp only [Instr.sliceAt, Sem.run_bind, run_underlying' hu, Result.andThen, Instr.sureAddr, Sem.run_pure, run_sliceBounds (P := P) (w := w) (sl := false) (len := n) (cap := n) e1 e2 c1 c2 c3, run_sizeOf hs]; rfl, ?_⟩
        by_cases hlu : l = u
        · subst hlu
          simp only [Nat.sub_self, Nat.zero_mul, List.take_zero]
          exact .sl0 _ _ _ (by omega)
        · rw [if_neg (by omega)]
          simp only [add_none]
          exact rep_sl (by omega) hb hlt ((hcl.drop _).take _)
      · next b off =>
        obtain rfl := rx.inv_ptr
        split at e0
        · next cs hb =>
          split at e0
          · next hle =>
            obtain ⟨hle, hn63⟩ := hle
            obtain ⟨vs, ty, k1, k2, _, _⟩ := R b _ (hsub b _ hb)
            refine ⟨_, by simp only [Instr.sliceAt, Sem.run_bind, run_underlying' hu, Result.andThen, Instr.sureAddr, Sem.run_pure, run_sliceBounds (P := P) (w := w) (sl := false) (len := n) (cap := n) e1 e2 c1 c2 c3, run_sizeOf hs]; rfl, ?_⟩
            have hmul : ∀ x : Nat, x ≤ n → off + x * es + (n - x) * es = off + n * es := fun x hx => by
              rw [Nat.add_assoc, ← Nat.add_mul]; congr 2; omega
            have hsz : off + l.toNat * es + (n - l.toNat) * es ≤ vs.size := by rw [hmul _ (by omega)]; omega
            split at e0
            · next hor =>
              cases e0
              rcases hor with rfl | hlt
              · have : (if n = Int.toNat 0 then (⟨b, off, none⟩ : Addr) else (⟨b, off, none⟩ : Addr).add (Int.toNat 0 * es)) = ⟨b, off + Int.toNat 0 * es, none⟩ := by
                  split <;> simp [add_none]
                rw [this]
                exact .osl (by omega) ⟨.inl rfl, by omega⟩ ⟨vs, ty, _, k1, hsz⟩
              · rw [if_neg (by omega)]
                simp only [add_none]
                exact .osl (by omega) ⟨.inl rfl, by omega⟩ ⟨vs, ty, _, k1, hsz⟩
            · next hor =>
              cases e0
              have : u.toNat - l.toNat = 0 := by omega
              rw [this]
              exact .sl0 _ _ _ (by omega)
          · cases e0
        · cases e0
      · cases e0
    · cases e0
  · cases e0

theorem sliceA_sound {t : TypeId} {x r : AV} {lo hi : Option AV} {vlo vhi : Option Value} {vx : Value} (rx : Rep w g vx x)
    (rl : match lo, vlo with | none, none => True | some a, some x => Rep w g x a | _, _ => False) (rh : match hi, vhi with | none, none => True | some a, some x => Rep w g x a | _, _ => False)
    (e : sliceA P t x lo hi = some r) : ∃ v, (Instr.slice t vx vlo vhi none).run P w = .ok v w ∧ Rep w g v r := by
  unfold sliceA at e
  split at e
  · next s hu =>
    split at e
    · next l h hl hh =>
      split at e
      · next hc =>
        cases e
        obtain ⟨b, rfl, rfl⟩ := rx.inv_str
        have e1 := boundA_rep rl hl
        have e2 := boundA_rep rh hh
        have hsz : b.data.toList.length = b.size := by simp
        rw [hsz] at hc e2
        refine ⟨.string (b.extract l.toNat h.toNat), ?_, ?_⟩
        · simp only [Instr.slice, Sem.run_bind, run_underlying' hu, Result.andThen, Option.isSome_none, Bool.false_eq_true, if_false, Sem.run_pure, run_sliceBounds e1 e2 hc.1 hc.2.1 hc.2.2]
        · have : (b.extract l.toNat h.toNat).data.toList = (b.data.toList.drop l.toNat).take (h.toNat - l.toNat) := by
            simp [List.extract_eq_take_drop]
          rw [← this]; exact .str _
      · cases e
    · cases e
  · next el hu =>
    split at e
    · next es l h hs hl hh =>
      split at e
      · next hc =>
        cases e
        obtain ⟨rfl, rfl⟩ := hc
        rw [rx.inv_nilsl]
        have e1 := boundA_rep rl hl
        have e2 := boundA_rep rh hh
        refine ⟨.slice none 0 0, ?_, .nilsl⟩
        simp [Instr.slice, run_underlying' hu, run_sliceBounds (P := P) (w := w) (sl := true) (len := 0) (cap := 0) e1 e2 (by omega) (by omega) (by omega), run_sizeOf hs]
      · cases e
    · cases e
  · next el n cells hu =>
    split at e
    · next es l h hs hl hh =>
      split at e
      · next hc =>
        obtain ⟨c1, c2, c3⟩ := hc
        cases e
        have e1 := boundA_rep rl hl
        have e2 := boundA_rep rh hh
        obtain ⟨a, c, rfl, hn⟩ := rx.inv_sl
        refine ⟨_, by simp only [Instr.slice, Sem.run_bind, run_underlying' hu, Result.andThen, run_sliceBounds (P := P) (w := w) (sl := true) (len := n) (cap := c) e1 e2 c1 c2 (by omega), run_sizeOf hs, Sem.run_pure]; rfl, ?_⟩
        by_cases hlh : l = h
        · subst hlh
          simp only [Nat.sub_self, Nat.zero_mul, List.take_zero]
          exact .sl0 _ _ _ (by omega)
        · by_cases hce : cells = []
          · subst hce
            simp only [List.drop_nil, List.take_nil]
            exact .sl0 _ _ _ (by omega)
          · obtain ⟨b, off, c', e3, hn', hb, hlt, hcl⟩ := cells_of_sl rx hce
            cases e3
            rw [if_neg (by omega)]
            simp only [Option.map_some, add_none]
            exact rep_sl (by omega) hb hlt ((hcl.drop _).take _)
      · cases e
    · cases e
  · next el b off n es' hu =>
    split at e
    · next es l h hs hl hh =>
      split at e
      · next hc =>
        obtain ⟨rfl, c1, c2, c3⟩ := hc
        have e1 := boundA_rep rl hl
        have e2 := boundA_rep rh hh
        obtain ⟨c, o, rfl, hn, hO, cs, ty, fr, h1, h2⟩ := rx.inv_osl
        cases e
        refine ⟨_, by simp only [Instr.slice, Sem.run_bind, run_underlying' hu, Result.andThen, run_sliceBounds (P := P) (w := w) (sl := true) (len := n) (cap := c) e1 e2 c1 c2 (by omega), run_sizeOf hs, Sem.run_pure]; rfl, ?_⟩
        have hb : ∀ x : Nat, x ≤ c → off + x * es + (c - x) * es = off + c * es := fun x hx => by
          rw [Nat.add_assoc, ← Nat.add_mul]; congr 2; omega
        have hle : off + l.toNat * es + (c - l.toNat) * es ≤ cs.size := by rw [hb _ (by omega)]; exact h2
        by_cases hcl : c = l.toNat
        · rw [if_pos hcl]
          exact .osl (by omega) ⟨.inr (by omega), by omega⟩ ⟨cs, ty, fr, h1, hle⟩
        · rw [if_neg hcl]
          simp only [Option.map_some, add_none]
          exact .osl (by omega) ⟨hO.1.imp (fun q => by rw [q]) (fun q => by omega), by omega⟩ ⟨cs, ty, fr, h1, hle⟩
      · cases e
    · cases e
  · cases e

theorem run_sliceBounds3 {sl : Bool} {len cap : Nat} {lo : Option Value} {kh km : IntKind} {l h m : Int} (hl : (lo = none ∧ l = 0) ∨ ∃ k, lo = some (.int k l))
    (c1 : 0 ≤ l) (c2 : l ≤ h) (c3 : h ≤ m) (c4 : m ≤ cap) : (Instr.sliceBounds sl len cap lo (some (.int kh h)) (some (.int km m))).run P w = .ok (l.toNat, h.toNat, m.toNat) w := by
  have c2' : l ≤ (h.toNat : Int) := by omega
  have c3' : h ≤ (m.toNat : Int) := by omega
  rcases hl with ⟨rfl, rfl⟩ | ⟨k, rfl⟩
  · simp [Instr.sliceBounds, run_sliceBound (show 0 ≤ m by omega) c4, run_sliceBound (show 0 ≤ h by omega) c3']
  · simp [Instr.sliceBounds, run_sliceBound (show 0 ≤ m by omega) c4, run_sliceBound (show 0 ≤ h by omega) c3', run_sliceBound c1 c2']
theorem slice3A_sound {t : TypeId} {x r mx : AV} {lo hi : Option AV} {vlo vhi : Option Value} {vx vm : Value} (rx : Rep w g vx x) (rm : Rep w g vm mx)
    (rl : match lo, vlo with | none, none => True | some a, some x => Rep w g x a | _, _ => False) (rh : match hi, vhi with | none, none => True | some a, some x => Rep w g x a | _, _ => False)
    (e : slice3A P t x lo hi mx = some r) : ∃ v, (Instr.sliceAt t vx vlo vhi (some vm)).run P w = .ok v w ∧ Rep w g v r := by
  unfold slice3A at e
  split at e
  · next el n cells kh h0 km m hu =>
    split at e
    · next hc0 =>
      unfold sliceA at e
      simp only [hu] at e
      split at e
      · next es l h hs hl hh =>
        split at e
        · next hc =>
          obtain ⟨c1, c2, c3⟩ := hc
          cases e
          have e1 := boundA_rep rl hl
          have hh' : h = h0 := by simp [boundA] at hh; exact hh.symm
          subst hh'
          obtain ⟨vh, rfl⟩ : ∃ vh, vhi = some vh := by cases vhi with | none => exact rh.elim | some v => exact ⟨v, rfl⟩
          obtain rfl : vh = .int kh h := by cases rh; rfl
          obtain rfl : vm = .int km m := by cases rm; rfl
          obtain ⟨a, c, rfl, hn⟩ := rx.inv_sl
          refine ⟨_, by simp only [Instr.sliceAt, Instr.slice, Sem.run_bind, run_underlying' hu, Result.andThen, run_sliceBounds3 (P := P) (w := w) (sl := true) (len := n) (cap := c) e1 c1 c2 hc0.1 (by omega), run_sizeOf hs, Sem.run_pure]; rfl, ?_⟩
          by_cases hlh : l = h
          · subst hlh
            simp only [Nat.sub_self, Nat.zero_mul, List.take_zero]
            exact .sl0 _ _ _ (by omega)
          · by_cases hce : cells = []
            · subst hce
              simp only [List.drop_nil, List.take_nil]
              exact .sl0 _ _ _ (by omega)
            · obtain ⟨b, off, c', e3, hn', hb, hlt, hcl⟩ := cells_of_sl rx hce
              cases e3
              rw [if_neg (by omega)]
              simp only [Option.map_some, add_none]
              exact rep_sl (by omega) hb hlt ((hcl.drop _).take _)
        · cases e
      · cases e
    · cases e
  · next el b off n es' kh h0 km m hu =>
    split at e
    · next hc0 =>
      unfold sliceA at e
      simp only [hu] at e
      split at e
      · next es l h hs hl hh =>
        split at e
        · next hc =>
          obtain ⟨rfl, c1, c2, c3⟩ := hc
          have e1 := boundA_rep rl hl
          have hh' : h = h0 := by simp [boundA] at hh; exact hh.symm
          subst hh'
          obtain ⟨vh, rfl⟩ : ∃ vh, vhi = some vh := by cases vhi with | none => exact rh.elim | some v => exact ⟨v, rfl⟩
          obtain rfl : vh = .int kh h := by cases rh; rfl
          obtain rfl : vm = .int km m := by cases rm; rfl
          obtain ⟨c, o, rfl, hn, hO, cs, ty, fr, h1, h2⟩ := rx.inv_osl
          cases e
          refine ⟨_, by simp only [Instr.sliceAt, Instr.slice, Sem.run_bind, run_underlying' hu, Result.andThen, run_sliceBounds3 (P := P) (w := w) (sl := true) (len := n) (cap := c) e1 c1 c2 hc0.1 (by omega), run_sizeOf hs, Sem.run_pure]; rfl, ?_⟩
          have hm : ∀ x : Nat, x ≤ m.toNat → off + x * es + (m.toNat - x) * es ≤ cs.size := fun x hx => by
            rw [Nat.add_assoc, ← Nat.add_mul, show x + (m.toNat - x) = m.toNat from by omega]
            have : m.toNat * es ≤ c * es := Nat.mul_le_mul_right _ (by omega)
            omega
          have hle := hm l.toNat (by omega)
          by_cases hcl : m.toNat = l.toNat
          · rw [if_pos hcl]
            exact .osl (by omega) ⟨.inr (by omega), by omega⟩ ⟨cs, ty, fr, h1, hle⟩
          · rw [if_neg hcl]
            simp only [Option.map_some, add_none]
            exact .osl (by omega) ⟨hO.1.imp (fun q => by rw [q]) (fun q => by omega), by omega⟩ ⟨cs, ty, fr, h1, hle⟩
        · cases e
      · cases e
    · cases e
  · cases e

theorem bytesOf_some : ∀ {cells : List AV} {bs : List UInt8}, bytesOf cells = some bs → ∃ ns : List Int, cells = ns.map (AV.int .u8) ∧ bs = ns.map (fun n => UInt8.ofNat n.toNat)
  | [], bs, e => by simp only [bytesOf, Option.some.injEq] at e; exact ⟨[], rfl, e.symm⟩
  | a :: as, bs, e => by
    simp only [bytesOf] at e
    split at e
    · next b bs' hb hbs =>
      simp only [Option.some.injEq] at e
      obtain ⟨ns, h1, h2⟩ := bytesOf_some hbs
      unfold byteOf at hb
      split at hb
      · next n => simp only [Option.some.injEq] at hb; exact ⟨n :: ns, by simp [h1], by simp [← e, ← hb, h2]⟩
      · cases hb
    · cases e

theorem run_bytes_of {src dst el : TypeId} (hs : P.underlying src = some (.slice el)) (he : P.underlying el = some (.int .u8)) (hd : P.underlying dst = some .string) {b off n c : Nat}
    {cells : List AV} (hcl : Cells w g b off cells) (hn : n = cells.length) {bs : List UInt8} (e : bytesOf cells = some bs) :
    ∃ v, (convert src dst (.slice (some ⟨b, off, none⟩) n c)).run P w = .ok v w ∧ Rep w g v (.str bs) := by
  obtain ⟨ns, rfl, rfl⟩ := bytesOf_some e
  obtain ⟨ho, vs, h1, h2⟩ := hcl
  refine ⟨_, run_convert_bytes_arg w src el hs he b off n c ns (by simpa using hn.symm) (fun i hi => ?_) dst hd, ?_⟩
  · have hi' : i < (ns.map (AV.int .u8)).length := by omega
    have hi2 : i < ns.length := by simpa using hi'
    rw [h1 i hi']
    have := (by simpa using h2 i hi' : Rep w g (vs i) (.int .u8 ns[i])).inv_int
    rw [this]; simp [hi2]
  · rw [← strOfNums_data]; exact .str _

theorem convA_sound (R : Rel w g) {h : AHeap} (hsub : ∀ b c, h b = some c → g b = some c) {src dst : TypeId} {x r : AV} {vx : Value} (rx : Rep w g vx x) (e : convA P h src dst x = some r) :
    ∃ v, (convert src dst vx).run P w = .ok v w ∧ Rep w g v r := by
  unfold convA at e
  split at e
  · next d k k' n hs hd => cases e; rw [rx.inv_int]; exact ⟨_, by simp [convert, run_underlying' hs, run_underlying' hd, Conv.intToInt], .int _ _⟩
  · next d s hs hd => cases e; obtain ⟨b, rfl, rfl⟩ := rx.inv_str; exact ⟨_, by simp [convert, run_underlying' hs, run_underlying' hd], .str _⟩
  · next d k n hs hd => cases e; rw [rx.inv_int]; exact ⟨_, by simp [convert, run_underlying' hs, run_underlying' hd, Conv.intToString], .str _⟩
  · rename_i x el hs hd _ _
    split at e
    · rename_i n cells he _ _
      split at e
      · next hn =>
        cases hb : bytesOf cells with
        | none => rw [hb] at e; cases e
        | some bs =>
          rw [hb] at e; simp only [Option.map_some, Option.some.injEq] at e; subst e
          by_cases hne : cells = []
          · subst hne
            simp only [bytesOf, Option.some.injEq] at hb
            subst hb; subst hn
            obtain ⟨a, c, rfl, _⟩ := rx.inv_sl
            refine ⟨.string ByteArray.empty, ?_, .str _⟩
            cases a with
            | none => exact run_convert_bytes_nil w src el hs he 0 c dst hd
            | some a =>
              rw [run_convert_bytes_string w src dst el _ _ c hs he hd]
              simp [Conv.bytesToString, loadCells, loadCellsFrom]
          · obtain ⟨b, off, c, rfl, _, _, _, hcl⟩ := cells_of_sl rx hne
            exact run_bytes_of hs he hd hcl hn hb
      · cases e
    · rename_i b off n es he _ _
      split at e
      · next hes =>
        subst hes
        split at e
        · next cells hc =>
          cases hb : bytesOf cells with
          | none => rw [hb] at e; cases e
          | some bs =>
            rw [hb] at e; simp only [Option.map_some, Option.some.injEq] at e; subst e
            simp only [cellsOfSlice] at hc
            · split at hc
              · next cs hcs =>
                split at hc
                · next hle =>
                  simp only [Option.some.injEq] at hc
                  subst hc
                  obtain ⟨c, o, rfl, hn, hcl⟩ := rx.osl_cells R (hsub _ _ hcs)
                  exact run_bytes_of hs he hd hcl (by simp; omega) hb
                · cases hc
              · cases hc
        · cases e
      · cases e
    · rename_i he _ _
      cases e
      rw [rx.inv_nilsl]
      exact ⟨_, run_convert_bytes_nil w src el hs he 0 0 dst hd, .str _⟩
    · cases e
  · cases e

theorem Rep.fitOk {v : Value} {a : AV} (r : Rep w g v a) (hf : a.fit = true) : v.cells.toList.length = a.cells.length := (r.cells hf).1.1

theorem zeroT_sound {t : TypeId} {z : List AV} (e : zeroT P t = some z) : ∃ v, (zeroValue t).run P w = .ok v w ∧ RepL w g v.cells.toList z ∧ ∀ x ∈ z, x.one = true := by
  unfold zeroT at e
  cases hi : P.info? t with
  | none => simp [hi] at e
  | some i =>
    simp only [hi, Option.bind_some] at e
    split at e
    · next v hz =>
      split at e
      · cases e
      · next a hne hx =>
        simp only [Option.some.injEq] at e
        subst e
        have r := cval_rep (w := w) (g := g) v
        have hf : (cval v).fit = true := by
          have h1 : cval v ≠ .undef := hx
          have h2 : ∀ l, cval v ≠ .tup l := by
            intro l; unfold cval; split
            · split <;> simp
            · unfold sval; split <;> simp
          revert h1 h2; cases cval v <;> simp [AV.fit]
        exact ⟨v, by simp [zeroValue, typeInfo, hi, hz], (r.cells hf).1, (r.cells hf).2⟩
    · cases e

theorem set_foldl (cs : List Value) : ∀ (l : Array Value) (off : Nat), off + cs.length ≤ l.size →
    ((cs.zipIdx.foldl (fun (acc : Array Value) (p : Value × Nat) => acc.setIfInBounds (off + p.2) p.1) l).toList = l.toList.take off ++ cs ++ l.toList.drop (off + cs.length)) := by
  have key : ∀ (cs : List Value) (k : Nat) (l : Array Value) (off : Nat), off + k + cs.length ≤ l.size →
      (((cs.zipIdx k).foldl (fun (acc : Array Value) (p : Value × Nat) => acc.setIfInBounds (off + p.2) p.1) l).toList = l.toList.take (off + k) ++ cs ++ l.toList.drop (off + k + cs.length)) := by
    intro cs
    induction cs with
    | nil => intro k l off h; simp
    | cons c cs ih =>
      intro k l off h
      simp only [List.length_cons] at h
      simp only [List.zipIdx_cons, List.foldl_cons]
      rw [ih (k + 1) (l.setIfInBounds (off + k) c) off (by simp; omega)]
      have hlt : off + k < l.toList.length := by simp; omega
      simp only [Array.toList_setIfInBounds, List.length_cons]
      rw [show off + (k + 1) = off + k + 1 from by omega, show off + k + (cs.length + 1) = off + k + 1 + cs.length from by omega]
      rw [List.drop_set_of_lt (by omega), List.set_eq_take_append_cons_drop, if_pos hlt, List.take_append]
      have hlen : (l.toList.take (off + k)).length = off + k := by simp; omega
      rw [hlen, show off + k + 1 - (off + k) = 1 from by omega, List.take_of_length_le (by omega)]
      simp [List.append_assoc]
  intro l off h
  exact key cs 0 l off (by simpa using h)

theorem RepL.take {vs : List Value} {as : List AV} (r : RepL w g vs as) (k : Nat) : RepL w g (vs.take k) (as.take k) :=
  ⟨by simp [r.1], fun i hi hj => by simp only [List.getElem_take]; exact r.2 i _ _⟩
theorem RepL.drop {vs : List Value} {as : List AV} (r : RepL w g vs as) (k : Nat) : RepL w g (vs.drop k) (as.drop k) :=
  ⟨by simp [r.1], fun i hi hj => by simp only [List.getElem_drop]; exact r.2 _ _ _⟩

/-- Places and values, pair by pair. -/
def RepP (w : World) (g : AHeap) (vs : List (Nat × Value)) (as : List (Nat × AV)) : Prop :=
  vs.map (·.1) = as.map (·.1) ∧ RepL w g (vs.map (·.2)) (as.map (·.2))

theorem fillA_sound {pl pl' : Nat → Option (Nat × Nat)} (hp : ∀ i x, pl i = some x → pl' i = some x) : ∀ (as : List (Nat × AV)) (vs : List (Nat × Value)) (z : List AV) (zs : Array Value) (r : List AV), RepP w g vs as →
    RepL w g zs.toList z → (∀ x ∈ z, x.one = true) → fillA pl z as = some r → ∃ cs, Instr.fill pl' zs vs = some cs ∧ RepL w g cs.toList r ∧ ∀ x ∈ r, x.one = true
  | [], vs, z, zs, r, hr, hz, ho, e => by
    have : vs = [] := by simpa using hr.1
    subst this
    simp only [fillA, Option.some.injEq] at e
    subst e
    exact ⟨zs, rfl, hz, ho⟩
  | (i, a) :: as, vs, z, zs, r, hr, hz, ho, e => by
    obtain ⟨h1, h2⟩ := hr
    cases vs with
    | nil => simp at h1
    | cons p vs =>
      obtain ⟨i', v⟩ := p
      simp only [List.map_cons, List.cons.injEq] at h1
      obtain ⟨rfl, h1⟩ := h1
      obtain ⟨_, _, e1, r1, r2⟩ := (show RepL w g (v :: vs.map (·.2)) (a :: as.map (·.2)) from h2).uncons
      cases e1
      simp only [fillA] at e
      split at e
      · cases e
      · next off size hpl =>
        split at e
        · next hc =>
          obtain ⟨c1, c2, c3⟩ := hc
          obtain ⟨rc, oc⟩ := r1.cells c3
          have hvl : v.cells.size = a.cells.length := by have := rc.1; simpa using this
          have hzl : zs.size = z.length := by have := hz.1; simpa using this
          have hfold : (v.cells.zipIdx.foldl (fun (cs : Array Value) (p : Value × Nat) => cs.setIfInBounds (off + p.2) p.1) zs).toList = zs.toList.take off ++ v.cells.toList ++ zs.toList.drop (off + v.cells.size) := by
            rw [← Array.foldl_toList, Array.toList_zipIdx]
            have := set_foldl v.cells.toList zs off (by simp; omega)
            simpa using this
          have hz' : RepL w g (v.cells.zipIdx.foldl (fun (cs : Array Value) (p : Value × Nat) => cs.setIfInBounds (off + p.2) p.1) zs).toList (splice z off a.cells) := by
            rw [hfold]
            unfold splice
            rw [hvl]
            exact ((hz.take off).append rc).append (hz.drop _)
          have ho' : ∀ x ∈ splice z off a.cells, x.one = true := by
            intro x hx
            simp only [splice, List.mem_append] at hx
            rcases hx with (hx | hx) | hx
            · exact ho x (List.mem_of_mem_take hx)
            · exact oc x hx
            · exact ho x (List.mem_of_mem_drop hx)
          obtain ⟨cs, h3, h4, h5⟩ := fillA_sound hp as vs _ _ r ⟨h1, r2⟩ hz' ho' e
          refine ⟨cs, ?_, h4, h5⟩
          simp only [Instr.fill, hp _ _ hpl]
          rw [if_neg (by simp; omega)]
          exact h3
        · cases e

theorem buildA_sound {t : TypeId} {as : List (Nat × AV)} {vs : Array (Nat × Value)} {r : AV} (rp : RepP w g vs.toList as) (e : buildA P t as = some r) :
    ∃ v, (Instr.build t vs).run P w = .ok v w ∧ Rep w g v r := by
  unfold buildA at e
  split at e
  · next z pl hz hpl =>
    cases hf : fillA (fun i => pl[i]?) z as with
    | none => rw [hf] at e; cases e
    | some cells =>
      rw [hf] at e
      simp only [Option.map_some, Option.some.injEq] at e
      subst e
      unfold zeroT at hz
      cases hi : P.info? t with
      | none => simp [hi] at hz
      | some it =>
        cases hzv : it.zero with
        | none => simp [hi, hzv] at hz
        | some zv =>
          obtain ⟨zv', e1, rz, oz⟩ := zeroT_sound (P := P) (w := w) (g := g) (t := t) (z := z) hz
          have : zv' = zv := by
            simp [zeroValue, typeInfo, hi, hzv] at e1
            exact e1.symm
          subst this
          unfold placesL at hpl
          cases hu : P.underlying t with
          | none => simp [hu] at hpl
          | some d =>
            cases d <;> try (simp [hu] at hpl; done)
            case array n el =>
              cases hie : P.info? el with
              | none => simp [hu, hie] at hpl
              | some ie =>
                simp only [hu, hie, Option.map_some, Option.some.injEq] at hpl
                subst hpl
                obtain ⟨cs, h3, h4, h5⟩ := fillA_sound (pl' := fun i => some (i * ie.size, ie.size)) (by
                  intro i x hx
                  obtain ⟨hlt, hx'⟩ := List.getElem?_eq_some_iff.1 hx
                  simp at hx'
                  exact congrArg some hx') as vs.toList z zv'.cells cells rp rz oz hf
                refine ⟨.agg cs, run_build w t vs cs (by simp only [Program.built, hi, hu, hzv, hie]; exact h3), ?_⟩
                have := rep_agg h4.1 h5 h4.2
                simpa using this
            case struct fields =>
              simp only [hu] at hpl
              obtain ⟨cs, h3, h4, h5⟩ := fillA_sound (pl' := fun i => pl.toArray[i]?) (by intro i x hx; simpa using hx) as vs.toList z zv'.cells cells rp rz oz hf
              refine ⟨.agg cs, run_build w t vs cs (by simp only [Program.built, hi, hu, hzv, hpl]; exact h3), ?_⟩
              have := rep_agg h4.1 h5 h4.2
              simpa using this
  · cases e

/-- What the operands stand for. -/
def RepO (w : World) (g : AHeap) (ρ : Operand → Value) (t : AF) : Prop := ∀ x, Rep w g (ρ x) (evalA t x)

theorem RepO.list {ρ : Operand → Value} {t : AF} (hρ : RepO w g ρ t) (xs : List Operand) : RepL w g (xs.map ρ) (xs.map (evalA t)) :=
  ⟨by simp, fun i hi hj => by simp only [List.getElem_map]; exact hρ _⟩

theorem RepO.parts {ρ : Operand → Value} {t : AF} (hρ : RepO w g ρ t) (ps : Array (Nat × Operand)) :
    RepP w g (ps.map fun (i, x) => (i, ρ x)).toList (ps.toList.map fun p => (p.1, evalA t p.2)) := by
  refine ⟨by simp [Function.comp_def], ?_⟩
  have := hρ.list (ps.toList.map (·.2))
  simpa [Function.comp_def] using this

theorem pureA_sound (R : Rel w g) {h : AHeap} (hsub : ∀ b c, h b = some c → g b = some c) {ρ : Operand → Value} {t : AF} (hρ : RepO w g ρ t) {o : Oper} {r : AV} (e : pureA P t h o.op = some r) :
    ∃ v, (execOp ρ o).run P w = .ok (.value v) w ∧ Rep w g v r := by
  unfold pureA at e
  unfold execOp
  split at e
  · next x hop => cases e; rw [hop]; exact ⟨_, rfl, hρ x⟩
  · next x hop => cases e; rw [hop]; exact ⟨_, rfl, hρ x⟩
  · next c a b hop =>
    rw [hop]
    split at e
    · next x hc =>
      cases e
      have := (hc ▸ hρ c : Rep w g (ρ c) (.bool x)).inv_bool
      refine ⟨if x then ρ a else ρ b, by simp [this, asBool], ?_⟩
      cases x
      · exact hρ b
      · exact hρ a
    · cases e
  · next ty a hop =>
    rw [hop]
    split at e
    · next b off hc =>
      have := (hc ▸ hρ a : Rep w g (ρ a) (.ptr b off)).inv_ptr
      split at e
      · next cs hcs =>
        have hcl := (Rel.cells R (hsub _ _ hcs)).drop off
        rw [Nat.zero_add] at hcl
        obtain ⟨v, h1, h2⟩ := run_loadVar (P := P) hcl e
        exact ⟨v, by simp [this, Instr.loadAt, Instr.sureAddr, h1], h2⟩
      · cases e
    · next cells hc =>
      obtain ⟨b, off, h0, _, _, hcl⟩ := cells_of_fptr (hc ▸ hρ a : Rep w g (ρ a) (.fptr cells))
      obtain ⟨v, h1, h2⟩ := run_loadVar (P := P) hcl e
      exact ⟨v, by simp [h0, Instr.loadAt, Instr.sureAddr, h1], h2⟩
    · cases e
  · next x hop =>
    rw [hop]
    split at e
    · next b off hc =>
      cases e
      have := (hc ▸ hρ x : Rep w g (ρ x) (.ptr b off)).inv_ptr
      exact ⟨_, by simp [this], .ptr _ _⟩
    · next cells hc =>
      cases e
      have rx := (hc ▸ hρ x : Rep w g (ρ x) (.fptr cells))
      obtain ⟨b, off, h0, _⟩ := cells_of_fptr rx
      rw [h0] at rx
      exact ⟨_, by simp [h0], rx⟩
    · cases e
  · next op ty x y ty2 hop =>
    rw [hop]
    obtain ⟨v, h1, h2⟩ := binA_sound (P := P) x y (hρ x) (hρ y) e
    exact ⟨v, by simp only [Sem.run_bind] at h1 ⊢; rw [h1]; rfl, h2⟩
  · next op ty x hop =>
    rw [hop]
    obtain ⟨v, h1, h2⟩ := unA_sound (P := P) (hρ x) e
    exact ⟨v, by simp [h1], h2⟩
  · next s d x hop =>
    rw [hop]
    obtain ⟨v, h1, h2⟩ := convA_sound (P := P) R hsub (hρ x) e
    exact ⟨v, by simp [h1], h2⟩
  · next ty x hop =>
    rw [hop]
    split at e
    · cases e
    · next d hni hu =>
      cases e
      refine ⟨.iface ty (ρ x), ?_, .iface (hρ x)⟩
      have : (Instr.makeInterface ty (ρ x)).run P w = .ok (.iface ty (ρ x)) w := by
        simp only [Instr.makeInterface, Sem.run_bind, run_underlying' hu, Result.andThen]
        rfl
      simp [this]
    · cases e
  · next f first caps hop =>
    rw [hop]
    cases e
    refine ⟨.func f (first.map ρ) (caps.map ρ), by simp [Instr.makeFunc], ?_⟩
    have h1 := hρ.list first.toList
    have h2 := hρ.list caps.toList
    have := Rep.fn (f := f) h1.1 h2.1 h1.2 h2.2
    have e1 : first.map ρ = (first.toList.map ρ).toArray := by apply Array.toList_inj.1; simp
    have e2 : caps.map ρ = (caps.toList.map ρ).toArray := by apply Array.toList_inj.1; simp
    rw [e1, e2]; exact this
  · next ty x lo hi hop =>
    rw [hop]
    split at e
    · next n el hu =>
      obtain ⟨v, h1, h2⟩ := arrSliceA_sound (P := P) R hsub hu (hρ x) (repO hρ lo) (repO hρ hi) e
      exact ⟨v, by simp [h1], h2⟩
    · next hna =>
      obtain ⟨v, h1, h2⟩ := sliceA_sound (P := P) (hρ x) (repO hρ lo) (repO hρ hi) e
      refine ⟨v, ?_, h2⟩
      have : (Instr.sliceAt ty (ρ x) (lo.map ρ) (hi.map ρ) none).run P w = .ok v w := by
        cases hu : P.underlying ty with
        | none => unfold sliceA at e; simp [hu] at e
        | some d =>
          simp only [Instr.sliceAt, Sem.run_bind, run_underlying' hu, Result.andThen]
          split
          · exact absurd hu (hna _ _)
          · exact h1
      simp [this]
  · next ty x lo hi m hop =>
    rw [hop]
    obtain ⟨v, h1, h2⟩ := slice3A_sound (P := P) (hρ x) (hρ m) (repO hρ lo) (repO hρ hi) e
    exact ⟨v, by simp [h1], h2⟩
  · next s x f hop =>
    rw [hop]
    obtain ⟨v, h1, h2⟩ := fieldAddrA_sound (P := P) (hρ x) e
    exact ⟨v, by simp [h1], h2⟩
  · next s x f hop =>
    rw [hop]
    obtain ⟨v, h1, h2⟩ := fieldA_sound (P := P) (hρ x) e
    exact ⟨v, by simp [h1], h2⟩
  · next ty x i hop =>
    rw [hop]
    obtain ⟨v, h1, h2⟩ := indexAddrA_sound (P := P) (hρ x) (hρ i) e
    exact ⟨v, by simp [h1], h2⟩
  · next ty x i hop =>
    rw [hop]
    obtain ⟨v, h1, h2⟩ := indexA_sound (P := P) (hρ x) (hρ i) e
    exact ⟨v, by simp [h1], h2⟩
  · next x i hop =>
    rw [hop]
    split at e
    · next vs hc =>
      obtain ⟨us, h0, h1, h2⟩ := (hc ▸ hρ x : Rep w g (ρ x) (.tup vs)).inv_tup
      obtain ⟨hi, rfl⟩ := List.getElem?_eq_some_iff.1 e
      have hi' : i < us.length := by omega
      exact ⟨us[i], by simp [h0, Instr.extract, hi'], h2 i hi' hi⟩
    · cases e
  · next ty parts hop =>
    rw [hop]
    obtain ⟨v, h1, h2⟩ := buildA_sound (P := P) (hρ.parts parts) e
    exact ⟨v, by simp [h1], h2⟩
  · next args argTypes hop =>
    rw [hop]
    split at e
    · next x ty ha ht =>
      have ht' : argTypes[0]? = some ty := by
        have : argTypes = #[ty] := by cases argTypes; simpa using ht
        simp [this]
      have ha' : args = #[x] := by cases args; simpa using ha
      obtain ⟨v, h1, h2⟩ := lenA_sound (P := P) R hsub argTypes o.type ht' (hρ x) e
      exact ⟨v, by subst ha'; simp [resolve, invoke, builtin, h1], h2⟩
    · cases e
  · cases e
end
end Go.AH

end

section
/-
  Steps on memory: what they do to the abstract heap.
-/
namespace Go.AH
open Go

/-- Only block b has turned. -/
structure Only (w w' : World) (b : Nat) : Prop where
  size : w'.heap.size = w.heap.size
  other : ∀ k, k ≠ b → w'.heap[k]? = w.heap[k]?
  os : w'.os = w.os
  tape : w'.tape = w.tape
  output : w'.output = w.output

section
variable {P : Program} {w w' w'' : World} {g g' h hf : AHeap} {b : Nat} {c : Chunk}

theorem Only.refl (w : World) (b : Nat) : Only w w b := ⟨rfl, fun _ _ => rfl, rfl, rfl, rfl⟩
theorem Only.trans (x : Only w w' b) (y : Only w' w'' b) : Only w w'' b :=
  ⟨y.size.trans x.size, fun k hk => (y.other k hk).trans (x.other k hk), y.os.trans x.os, y.tape.trans x.tape, y.output.trans x.output⟩
theorem Only.setCell (w : World) (a : Addr) (v : Value) : Only w (w.setCell a v) a.block :=
  ⟨by simp [World.setCell], fun k hk => by simp [World.setCell, Array.getElem?_modify, Ne.symm hk], rfl, rfl, rfl⟩
theorem Only.putObj (w : World) (b : Nat) (o : Obj) : Only w (w.putObj b o) b :=
  ⟨by simp, fun k hk => World.putObj_heap_other hk, rfl, rfl, rfl⟩
theorem Only.drew (x : Only w w' b) : Only w w'.drew b := ⟨x.size, x.other, x.os, x.tape, x.output⟩

/-- A step under a frame hf: the frame's blocks lie as they lay. -/
structure Stp (w : World) (h hf : AHeap) (w' : World) (h' : AHeap) : Prop where
  ext : Ext w (h.un hf) w' (h'.un hf)
  fr : ∀ b, hf b ≠ none → w'.heap[b]? = w.heap[b]?

theorem Stp.refl (w : World) (h hf : AHeap) : Stp w h hf w h := ⟨.refl _ _, fun _ _ => rfl⟩
theorem Stp.trans {w1 w2 w3 : World} {h1 h2 h3 hf : AHeap} (x : Stp w1 h1 hf w2 h2) (y : Stp w2 h2 hf w3 h3) : Stp w1 h1 hf w3 h3 :=
  ⟨x.ext.trans y.ext, fun b hb => (y.fr b hb).trans (x.fr b hb)⟩
theorem Stp.only {h' : AHeap} (x : Ext w (h.un hf) w' (h'.un hf)) (o : Only w w' b) (hb : hf b = none) : Stp w h hf w' h' :=
  ⟨x, fun k hk => o.other k (fun e => hk (e ▸ hb))⟩

theorem ChunkOk.lt {g : AHeap} (k : ChunkOk w g b c) : b < w.heap.size := by
  cases c with
  | cells cs => obtain ⟨vs, e, h1, _⟩ := k; exact (Array.getElem?_eq_some_iff.1 h1).1
  | map sh es => obtain ⟨vs, e, h1, _⟩ := k; exact (Array.getElem?_eq_some_iff.1 h1).1
  | sit s p => exact (Array.getElem?_eq_some_iff.1 k).1
  | loop r t => exact (Array.getElem?_eq_some_iff.1 k.1).1

theorem Rel.lt (R : Rel w g) (e : g b = some c) : b < w.heap.size := (R b c e).lt
theorem Rel.fresh (R : Rel w g) : g w.heap.size = none := by
  cases e : g w.heap.size with
  | none => rfl
  | some c => exact absurd (R.lt e) (Nat.lt_irrefl _)

theorem ChunkOk.ext (x : Ext w g w' g') (e : w'.heap[b]? = w.heap[b]?) (k : ChunkOk w g b c) : ChunkOk w' g' b c := by
  cases c with
  | cells cs => obtain ⟨vs, ty, h1, h2, h3, h4⟩ := k; exact ⟨vs, ty, e.trans h1, h2, h3, fun i hi hj => (h4 i hi hj).ext x⟩
  | map sh es => obtain ⟨vs, cl, h1, h2, h3, h4⟩ := k; exact ⟨vs, cl, e.trans h1, h2, h3, fun i hi hj => ⟨(h4 i hi hj).1.ext x, (h4 i hi hj).2.ext x⟩⟩
  | sit s p => exact e.trans k
  | loop r t => exact ⟨e.trans k.1, fun i => (k.2 i).ext x⟩

theorem Rel.step (R : Rel w g) (x : Ext w g w' g') (hs : ∀ i c, g' i = some c → (g i = some c ∧ w'.heap[i]? = w.heap[i]?) ∨ ChunkOk w' g' i c) : Rel w' g' := by
  intro b c e
  rcases hs b c e with ⟨h1, h2⟩ | h
  · exact (R b c h1).ext x h2
  · exact h

/-- An owned block turns. -/
theorem Ext.only (o : Only w w' b) (hb : g b ≠ none) (hs : ∀ (cs : Array Value) (e : TypeId) (fr : Nat × Nat), w.heap[b]? = some (Obj.cells cs e fr) → ∃ (cs' : Array Value) (fr' : Nat × Nat), w'.heap[b]? = some (Obj.cells cs' e fr') ∧ cs'.size = cs.size)
    (hg : ∀ k, k ≠ b → g' k = g k) : Ext w g w' g' :=
  ⟨by rw [o.size]; exact Nat.le_refl _,
   fun k _ hn => by
     have hk : k ≠ b := fun e => hb (e ▸ hn)
     exact ⟨(hg k hk).trans hn, o.other k hk⟩,
   fun k cs e fr hc => by
     by_cases hk : k = b
     · subst hk; exact hs cs e fr hc
     · exact ⟨cs, fr, (o.other k hk).trans hc, rfl⟩,
   o.os, o.tape, o.output⟩

theorem Ext.alloc (o : Obj) (hg : ∀ k, k ≠ w.heap.size → g' k = g k) : Ext w g (w.alloc o) g' :=
  ⟨by simp,
   fun k hk hn => ⟨(hg k (by omega)).trans hn, by show (w.heap.push o)[k]? = _; rw [Array.getElem?_push, if_neg (by omega)]⟩,
   fun k cs e fr hc => by
     have hlt := (Array.getElem?_eq_some_iff.1 hc).1
     exact ⟨cs, fr, by show (w.heap.push o)[k]? = _; rw [Array.getElem?_push, if_neg (by omega)]; exact hc, rfl⟩,
   rfl, rfl, rfl⟩

theorem Ext.drew (x : Ext w g w' g') : Ext w g w'.drew g' := ⟨x.size, x.keep, x.shape, x.os, x.tape, x.output⟩
theorem Rel.drew (R : Rel w g) : Rel w.drew g := R.step ((Ext.refl w g).drew) (fun b c e => .inl ⟨e, rfl⟩)

theorem Rel.alloc (R : Rel w g) {o : Obj} {c : Chunk} (k : ∀ x : Ext w g (w.alloc o) (g.upd w.heap.size c), ChunkOk (w.alloc o) (g.upd w.heap.size c) w.heap.size c) :
    Ext w g (w.alloc o) (g.upd w.heap.size c) ∧ Rel (w.alloc o) (g.upd w.heap.size c) := by
  have x : Ext w g (w.alloc o) (g.upd w.heap.size c)   := .alloc o (fun k hk => AHeap.upd_ne hk)
  refine ⟨x, R.step x fun b' c' e => ?_⟩
  by_cases hb : b' = w.heap.size
  · subst hb
    rw [AHeap.upd_same] at e; cases e
    exact .inr (k x)
  · rw [AHeap.upd_ne hb] at e
    have := R.lt e
    refine .inl ⟨e, ?_⟩
    show (w.heap.push o)[b']? = _
    rw [Array.getElem?_push, if_neg hb]

theorem Rel.upd (R : Rel w g) {c0 c : Chunk} (e0 : g b = some c0) (o : Only w w' b) (hs : ∀ (cs : Array Value) (e : TypeId) (fr : Nat × Nat), w.heap[b]? = some (Obj.cells cs e fr) → ∃ (cs' : Array Value) (fr' : Nat × Nat), w'.heap[b]? = some (Obj.cells cs' e fr') ∧ cs'.size = cs.size)
    (k : ∀ x : Ext w g w' (g.upd b c), ChunkOk w' (g.upd b c) b c) : Ext w g w' (g.upd b c) ∧ Rel w' (g.upd b c) := by
  have x : Ext w g w' (g.upd b c) := .only o (by rw [e0]; simp) hs (fun k hk => AHeap.upd_ne hk)
  refine ⟨x, R.step x fun b' c' e => ?_⟩
  by_cases hb : b' = b
  · subst hb; rw [AHeap.upd_same] at e; cases e; exact .inr (k x)
  · rw [AHeap.upd_ne hb] at e; exact .inl ⟨e, o.other b' hb⟩

theorem cells_of_list {e : TypeId} {vs : Array Value} {cs : List AV} (h1 : w.heap[b]? = some (.cells vs e (0, 0))) (r : RepL w g vs.toList cs) (ho : ∀ x ∈ cs, x.one = true) : ChunkOk w g b (.cells cs) :=
  ⟨vs, e, h1, by have := r.1; simp at this; omega, ho, fun i hi hj => by have := r.2 i (by simpa using hj) hi; simpa using this⟩

theorem alloc_at (w : World) (o : Obj) : (w.alloc o).heap[w.heap.size]? = some o := World.alloc_heap_new w o

/-- A new row of cells. -/
theorem new_cells (R : Rel w g) {e : TypeId} {vs : Array Value} {cs : List AV} (r : RepL w g (vs.toList.take cs.length) cs) (ho : ∀ x ∈ cs, x.one = true) :
    Ext w g (w.alloc (.cells vs e)) (g.upd w.heap.size (.cells cs)) ∧ Rel (w.alloc (.cells vs e)) (g.upd w.heap.size (.cells cs)) := by
  refine R.alloc fun x => ⟨vs, e, alloc_at w _, ?_, ho, fun i hi hj => ?_⟩
  · have := r.1; simp at this; omega
  · have h1 : i < (vs.toList.take cs.length).length := by have := r.1; omega
    have := (r.2 i h1 hi).ext x
    simpa using this

theorem setCell_at {cs : Array Value} {e : TypeId} {fr : Nat × Nat} (h1 : w.heap[b]? = some (.cells cs e fr)) (o : Nat) (v : Value) :
    (w.setCell ⟨b, o, none⟩ v).heap[b]? = some (.cells (cs.setIfInBounds o v) e fr) := by
  simp [World.setCell, Array.getElem?_modify, h1]

theorem run_storeCells : ∀ (vs : List Value) (i : Nat) (w : World) (o : Nat) (cs : Array Value) (e : TypeId), w.heap[b]? = some (.cells cs e (0, 0)) → o + i + vs.length ≤ cs.size → (∀ v ∈ vs, v.oneCell' = true) →
    ∃ w' cs', (storeCells ⟨b, o, none⟩ vs i).run P w = .ok () w' ∧ Only w w' b ∧ w'.heap[b]? = some (.cells cs' e (0, 0)) ∧ cs'.toList = cs.toList.take (o + i) ++ vs ++ cs.toList.drop (o + i + vs.length)
  | [], i, w, o, cs, e, h1, h2, h3 => ⟨w, cs, rfl, .refl w b, h1, by simp⟩
  | v :: vs, i, w, o, cs, e, h1, h2, h3 => by
    simp only [List.length_cons] at h2
    have hc : w.cell? ⟨b, o + i, none⟩ = some (cs[o + i]'(by omega)) := by simp [World.cell?, h1, show o + i < cs.size from by omega]
    have hfz : w.frozen? ⟨b, o + i, none⟩ = false := by simp [World.frozen?, h1]
    have hst : (store ((⟨b, o, none⟩ : Addr).add i) v).run P w = .ok () (w.setCell ⟨b, o + i, none⟩ v) := by
      rw [add_none, run_store P w _ v .plain (h3 v (by simp)), hc, hfz]; rfl
    obtain ⟨w', cs', e1, e2, e3, e4⟩ := run_storeCells vs (i + 1) (w.setCell ⟨b, o + i, none⟩ v) o (cs.setIfInBounds (o + i) v) e (setCell_at h1 _ _) (by simp; omega) (fun x hx => h3 x (by simp [hx]))
    refine ⟨w', cs', ?_, (Only.setCell w ⟨b, o + i, none⟩ v).trans e2, e3, ?_⟩
    · rw [storeCells, Sem.run_bind]
      rw [hst]; exact e1
    · rw [e4]
      have hlt : o + i < cs.toList.length := by simp; omega
      simp only [Array.toList_setIfInBounds, List.length_cons]
      rw [show o + (i + 1) = o + i + 1 from by omega, show o + i + (vs.length + 1) = o + i + 1 + vs.length from by omega]
      rw [List.drop_set_of_lt (by omega), List.set_eq_take_append_cons_drop, if_pos hlt, List.take_append]
      have hlen : (cs.toList.take (o + i)).length = o + i := by simp; omega
      rw [hlen, show o + i + 1 - (o + i) = 1 from by omega, List.take_of_length_le (by omega)]
      simp [List.append_assoc]

theorem RepL.ones {vs : List Value} {as : List AV} (r : RepL w g vs as) (ho : ∀ x ∈ as, x.one = true) : ∀ v ∈ vs, v.oneCell' = true := by
  intro v hv
  obtain ⟨i, hi, rfl⟩ := List.mem_iff_getElem.1 hv
  have hj : i < as.length := by have := r.1; omega
  exact oneCell_of (r.2 i hi hj) (ho _ (List.getElem_mem hj))

theorem RepL.get? {vs : List Value} {as : List AV} (r : RepL w g vs as) {i : Nat} {a : AV} (e : as[i]? = some a) : ∃ v, vs[i]? = some v ∧ Rep w g v a := by
  obtain ⟨hi, rfl⟩ := List.getElem?_eq_some_iff.1 e
  have h2 : i < vs.length := by have := r.1; omega
  exact ⟨vs[i], by simp [h2], r.2 i h2 hi⟩

/-- A store into an owned row. -/
theorem store_cells (R : Rel w g) {cs : List AV} (e0 : g b = some (.cells cs)) {off : Nat} {vs : List Value} {as : List AV} (r : RepL w g vs as) (ho : ∀ x ∈ as, x.one = true) (hle : off + as.length ≤ cs.length) :
    ∃ w', (storeCells ⟨b, off, none⟩ vs).run P w = .ok () w' ∧ Ext w g w' (g.upd b (.cells (splice cs off as))) ∧ Rel w' (g.upd b (.cells (splice cs off as))) ∧ Only w w' b := by
  obtain ⟨us, ty, h1, h2, h3, h4⟩ := R b _ e0
  have hl := r.1
  obtain ⟨w', us', e1, e2, e3, e4⟩ := run_storeCells (P := P) vs 0 w off us ty h1 (by omega) (r.ones ho)
  have hsz : us'.size = us.size := by
    have := congrArg List.length e4
    simp at this
    omega
  obtain ⟨x, R'⟩ := R.upd (c := .cells (splice cs off as)) e0 e2 (fun cs0 e0' fr0 hc => by rw [h1] at hc; cases hc; exact ⟨us', (0, 0), e3, hsz⟩) (fun x => by
    refine ⟨us', ty, e3, ?_, ?_, ?_⟩
    · simp only [splice, List.length_append, List.length_take, List.length_drop]; omega
    · intro y hy
      simp only [splice, List.mem_append] at hy
      rcases hy with (hy | hy) | hy
      · exact h3 y (List.mem_of_mem_take hy)
      · exact ho y hy
      · exact h3 y (List.mem_of_mem_drop hy)
    · have r0 : RepL w g (us.toList.take cs.length) cs := ⟨by simp; omega, fun i hi hj => by simpa using h4 i hj (by simp at hi; omega)⟩
      have r1 : RepL w g ((us.toList.take cs.length).take off ++ vs ++ (us.toList.take cs.length).drop (off + as.length)) (splice cs off as) := ((r0.take off).append r).append (r0.drop _)
      have e5 : us'.toList.take cs.length = (us.toList.take cs.length).take off ++ vs ++ (us.toList.take cs.length).drop (off + as.length) := by
        rw [e4, Nat.add_zero, List.take_append, List.take_append, List.drop_take, List.take_take, List.take_take]
        have q1 : (us.toList.take off).length = off := by simp; omega
        rw [List.length_append, q1, hl]
        rw [List.take_of_length_le (l := vs) (by omega)]
        rw [show min cs.length off = off from by omega, show min off cs.length = off from by omega]
      rw [← e5] at r1
      intro i hi hj
      have h6 : i < (us'.toList.take cs.length).length := by have := r1.1; omega
      have := (r1.2 i h6 hi).ext x
      simpa using this)
  exact ⟨w', e1, x, R', e2⟩
end
end Go.AH

end
