/-
  Abstract values and what they stand for in a world of the model: read-only memory is told by value, owned blocks by their numbers.
-/
import Derived.RangeFuncRecord
import Derived.RangeFuncCalls
import Derived.Laws.NewBlocks
set_option linter.unusedSimpArgs false
set_option linter.unusedVariables false
set_option linter.unusedSectionVars false
namespace Go.AH
open Go

inductive AV where
  | undef
  | bool (b : Bool)
  | int (k : IntKind) (n : Int)
  | str (s : List UInt8)
  | nilsl
  | sl (n : Nat) (cells : List AV)
  | osl (b off n es : Nat)
  | nilptr
  | ptr (b off : Nat)
  | fptr (cells : List AV)
  | nilmap
  | map (b : Nat)
  | fn (f : Fn) (first caps : List AV)
  | nilfn
  | nilif
  | iface (t : TypeId) (v : AV)
  | agg (cells : List AV)
  | tup (vs : List AV)
  deriving Inhabited

/-- One cell of memory holds it. -/
def AV.one : AV → Bool
  | .undef | .agg _ | .tup _ => false
  | _ => true

def AV.cells : AV → List AV
  | .agg cs => cs
  | v => [v]

/-- The kinds of a map's keys, cell by cell. -/
inductive KK where
  | b | i (k : IntKind) | s
  deriving DecidableEq
inductive KShape where
  | one (k : KK)
  | many (ks : List KK)
  deriving DecidableEq
def kkOf : AV → Option KK
  | .bool _ => some .b
  | .int k _ => some (.i k)
  | .str _ => some .s
  | _ => none
def KShape.ok : KShape → AV → Bool
  | .one k, a => kkOf a == some k
  | .many ks, .agg cells => cells.map kkOf == ks.map some
  | _, _ => false

inductive Chunk where
  | cells (cs : List AV)
  | map (sh : KShape) (es : List (AV × AV))
  | sit (s : List UInt8) (pos : Nat)
  | loop (r : Loop) (t : Nat → AV)

def AHeap := Nat → Option Chunk
def AHeap.empty : AHeap := fun _ => none
def AHeap.upd (h : AHeap) (b : Nat) (c : Chunk) : AHeap := fun i => if i = b then some c else h i
def AHeap.del (h : AHeap) (b : Nat) : AHeap := fun i => if i = b then none else h i
def AHeap.un (h g : AHeap) : AHeap := fun i => match h i with | some c => some c | none => g i
def Disj (h g : AHeap) : Prop := ∀ b, h b = none ∨ g b = none

inductive Rep (w : World) (h : AHeap) : Value → AV → Prop
  | undef (v : Value) : Rep w h v .undef
  | bool (b : Bool) : Rep w h (.bool b) (.bool b)
  | int (k : IntKind) (n : Int) : Rep w h (.int k n) (.int k n)
  | str (s : ByteArray) : Rep w h (.string s) (.str s.data.toList)
  | nilsl : Rep w h (.slice none 0 0) .nilsl
  | sl0 (a : Option Addr) (n c : Nat) (hn : n ≤ c) : Rep w h (.slice a n c) (.sl n [])
  | sl {b off n c : Nat} {vs : Nat → Value} {cells : List AV} (hn : n ≤ c) (hb : h b = none) (hlt : b < w.heap.size)
      (hc : ∀ i, i < cells.length → w.cell? ⟨b, off + i, none⟩ = some (vs i)) (ho : ∀ x ∈ cells, x.one = true)
      (hr : ∀ i (hi : i < cells.length), Rep w h (vs i) cells[i]) : Rep w h (.slice (some ⟨b, off, none⟩) n c) (.sl n cells)
  | osl {b off n c es : Nat} (hn : n ≤ c) (hs : ∃ (cs : Array Value) (e : TypeId) (fr : Nat × Nat), w.heap[b]? = some (Obj.cells cs e fr) ∧ off + c * es ≤ cs.size) :
      Rep w h (.slice (some ⟨b, off, none⟩) n c) (.osl b off n es)
  | nilptr : Rep w h (.pointer none) .nilptr
  | ptr (b off : Nat) : Rep w h (.pointer (some ⟨b, off, none⟩)) (.ptr b off)
  | fptr {b off : Nat} {vs : Nat → Value} {cells : List AV} (hb : h b = none) (hlt : b < w.heap.size)
      (hc : ∀ i, i < cells.length → w.cell? ⟨b, off + i, none⟩ = some (vs i)) (ho : ∀ x ∈ cells, x.one = true)
      (hr : ∀ i (hi : i < cells.length), Rep w h (vs i) cells[i]) : Rep w h (.pointer (some ⟨b, off, none⟩)) (.fptr cells)
  | nilmap : Rep w h (.map none) .nilmap
  | map (b : Nat) : Rep w h (.map (some b)) (.map b)
  | fn {f : Fn} {first caps : List Value} {fa ca : List AV} (h1 : first.length = fa.length) (h2 : caps.length = ca.length)
      (hf : ∀ i (hi : i < first.length) (hj : i < fa.length), Rep w h first[i] fa[i])
      (hc : ∀ i (hi : i < caps.length) (hj : i < ca.length), Rep w h caps[i] ca[i]) : Rep w h (.func f first.toArray caps.toArray) (.fn f fa ca)
  | nilfn : Rep w h .nilFunc .nilfn
  | nilif : Rep w h .nilIface .nilif
  | iface {t : TypeId} {v : Value} {a : AV} (hr : Rep w h v a) : Rep w h (.iface t v) (.iface t a)
  | agg {vs : List Value} {cells : List AV} (h1 : vs.length = cells.length) (ho : ∀ x ∈ cells, x.one = true)
      (hr : ∀ i (hi : i < vs.length) (hj : i < cells.length), Rep w h vs[i] cells[i]) : Rep w h (.agg vs.toArray) (.agg cells)
  | tup {vs : List Value} {cells : List AV} (h1 : vs.length = cells.length)
      (hr : ∀ i (hi : i < vs.length) (hj : i < cells.length), Rep w h vs[i] cells[i]) : Rep w h (.tuple vs.toArray) (.tup cells)

/-- Pointwise. -/
def RepL (w : World) (h : AHeap) (vs : List Value) (as : List AV) : Prop :=
  vs.length = as.length ∧ ∀ i (hi : i < vs.length) (hj : i < as.length), Rep w h vs[i] as[i]

def ChunkOk (w : World) (h : AHeap) (b : Nat) : Chunk → Prop
  | .cells cs => ∃ (vs : Array Value) (e : TypeId), w.heap[b]? = some (Obj.cells vs e (0, 0)) ∧ cs.length ≤ vs.size ∧ (∀ x ∈ cs, x.one = true) ∧
      ∀ i (hi : i < cs.length) (hj : i < vs.size), Rep w h vs[i] cs[i]
  | .map sh es => ∃ (ents : Array MapEntry) (clock : Nat), w.heap[b]? = some (.map ents clock) ∧ ents.size = es.length ∧ (∀ e ∈ es, sh.ok e.1 = true) ∧
      (∀ i (hi : i < es.length) (hj : i < ents.size), Rep w h ents[i].key es[i].1 ∧ Rep w h ents[i].val es[i].2)
  | .sit s pos => w.heap[b]? = some (.stringIter ⟨s.toArray⟩ pos)
  | .loop r t => w.heap[b]? = some (.loop r) ∧ ∀ i, Rep w h (r.tmps.getD i Go.undef) (t i)

def Rel (w : World) (h : AHeap) : Prop := ∀ b c, h b = some c → ChunkOk w h b c

structure Ext (w : World) (h : AHeap) (w' : World) (h' : AHeap) : Prop where
  size : w.heap.size ≤ w'.heap.size
  keep : ∀ b, b < w.heap.size → h b = none → h' b = none ∧ w'.heap[b]? = w.heap[b]?
  shape : ∀ (b : Nat) (cs : Array Value) (e : TypeId) (fr : Nat × Nat), w.heap[b]? = some (Obj.cells cs e fr) → ∃ (cs' : Array Value) (fr' : Nat × Nat), w'.heap[b]? = some (Obj.cells cs' e fr') ∧ cs'.size = cs.size
  os : w'.os = w.os
  tape : w'.tape = w.tape
  output : w'.output = w.output

theorem Ext.refl (w : World) (h : AHeap) : Ext w h w h :=
  ⟨Nat.le_refl _, fun _ _ hb => ⟨hb, rfl⟩, fun _ cs _ fr hc => ⟨cs, fr, hc, rfl⟩, rfl, rfl, rfl⟩

theorem Ext.trans {w1 w2 w3 : World} {h1 h2 h3 : AHeap} (a : Ext w1 h1 w2 h2) (b : Ext w2 h2 w3 h3) : Ext w1 h1 w3 h3 :=
  ⟨Nat.le_trans a.size b.size,
   fun i hi hb => by
     obtain ⟨e1, e2⟩ := a.keep i hi hb
     obtain ⟨e3, e4⟩ := b.keep i (Nat.lt_of_lt_of_le hi a.size) e1
     exact ⟨e3, e4.trans e2⟩,
   fun i cs e fr hc => by
     obtain ⟨cs1, fr1, e1, e2⟩ := a.shape i cs e fr hc
     obtain ⟨cs2, fr2, e3, e4⟩ := b.shape i cs1 e fr1 e1
     exact ⟨cs2, fr2, e3, e4.trans e2⟩,
   b.os.trans a.os, b.tape.trans a.tape, b.output.trans a.output⟩

theorem Rep.ext {w w' : World} {h h' : AHeap} (x : Ext w h w' h') {v : Value} {a : AV} (r : Rep w h v a) : Rep w' h' v a := by
  induction r with
  | undef v => exact .undef v
  | bool b => exact .bool b
  | int k n => exact .int k n
  | str s => exact .str s
  | nilsl => exact .nilsl
  | sl0 a n c hn => exact .sl0 a n c hn
  | sl hn hb hlt hc ho _ ih =>
    obtain ⟨e1, e2⟩ := x.keep _ hlt hb
    refine .sl hn e1 (Nat.lt_of_lt_of_le hlt x.size) (fun i hi => ?_) ho ih
    rw [← hc i hi]; exact World.cell?_of_block (w := w) e2
  | osl hn hs =>
    obtain ⟨cs, e, fr, h1, h2⟩ := hs
    obtain ⟨cs', fr', h3, h4⟩ := x.shape _ _ _ _ h1
    exact .osl hn ⟨cs', e, fr', h3, by omega⟩
  | nilptr => exact .nilptr
  | ptr b off => exact .ptr b off
  | fptr hb hlt hc ho _ ih =>
    obtain ⟨e1, e2⟩ := x.keep _ hlt hb
    refine .fptr e1 (Nat.lt_of_lt_of_le hlt x.size) (fun i hi => ?_) ho ih
    rw [← hc i hi]; exact World.cell?_of_block (w := w) e2
  | nilmap => exact .nilmap
  | map b => exact .map b
  | fn h1 h2 _ _ ih1 ih2 => exact .fn h1 h2 ih1 ih2
  | nilfn => exact .nilfn
  | nilif => exact .nilif
  | iface _ ih => exact .iface ih
  | agg h1 ho _ ih => exact .agg h1 ho ih
  | tup h1 _ ih => exact .tup h1 ih

theorem RepL.ext {w w' : World} {h h' : AHeap} (x : Ext w h w' h') {vs : List Value} {as : List AV} (r : RepL w h vs as) : RepL w' h' vs as :=
  ⟨r.1, fun i hi hj => (r.2 i hi hj).ext x⟩

theorem RepL.nil {w : World} {h : AHeap} : RepL w h [] [] := ⟨rfl, fun i hi => absurd hi (Nat.not_lt_zero i)⟩
theorem RepL.cons {w : World} {h : AHeap} {v : Value} {a : AV} {vs : List Value} {as : List AV} (r : Rep w h v a) (rs : RepL w h vs as) : RepL w h (v :: vs) (a :: as) :=
  ⟨by simp [rs.1], fun i hi hj => by
    cases i with
    | zero => exact r
    | succ i => exact rs.2 i (by simpa using hi) (by simpa using hj)⟩
theorem RepL.uncons {w : World} {h : AHeap} {vs : List Value} {a : AV} {as : List AV} (r : RepL w h vs (a :: as)) : ∃ v vs', vs = v :: vs' ∧ Rep w h v a ∧ RepL w h vs' as := by
  obtain ⟨h1, h2⟩ := r
  cases vs with
  | nil => simp at h1
  | cons v vs =>
    refine ⟨v, vs, rfl, h2 0 (by simp) (by simp), by simpa using h1, fun i hi hj => ?_⟩
    exact h2 (i + 1) (by simpa using hi) (by simpa using hj)
theorem RepL.append {w : World} {h : AHeap} {vs vs' : List Value} {as as' : List AV} (r : RepL w h vs as) (r' : RepL w h vs' as') : RepL w h (vs ++ vs') (as ++ as') := by
  induction vs generalizing as with
  | nil => cases as with
    | nil => exact r'
    | cons a as => exact absurd r.1 (by simp)
  | cons v vs ih =>
    cases as with
    | nil => exact absurd r.1 (by simp)
    | cons a as =>
      obtain ⟨v', vs'', e, r1, r2⟩ := r.uncons
      cases e
      exact .cons r1 (ih r2)

/-! ### The heap's algebra -/
section heap
variable {h g k : AHeap} {b b' : Nat} {c c' : Chunk}
@[simp] theorem AHeap.empty_at (b : Nat) : AHeap.empty b = none := rfl
theorem AHeap.upd_at : h.upd b c b' = if b' = b then some c else h b' := rfl
theorem AHeap.del_at : h.del b b' = if b' = b then none else h b' := rfl
@[simp] theorem AHeap.upd_same : h.upd b c b = some c := by simp [AHeap.upd]
theorem AHeap.upd_ne (e : b' ≠ b) : h.upd b c b' = h b' := by simp [AHeap.upd, e]
@[simp] theorem AHeap.del_same : h.del b b = none := by simp [AHeap.del]
theorem AHeap.del_ne (e : b' ≠ b) : h.del b b' = h b' := by simp [AHeap.del, e]
theorem AHeap.del_upd (e : h b = none) : (h.upd b c).del b = h := by
  funext i; by_cases hi : i = b <;> simp [AHeap.upd, AHeap.del, hi, e]
@[simp] theorem AHeap.upd_upd : (h.upd b c).upd b c' = h.upd b c' := by
  funext i; by_cases hi : i = b <;> simp [AHeap.upd, hi]
theorem AHeap.upd_comm (e : b ≠ b') : (h.upd b c).upd b' c' = (h.upd b' c').upd b c := by
  funext i; by_cases hi : i = b <;> by_cases hj : i = b' <;> simp [AHeap.upd, hi, hj]
  · exact absurd (hi.symm.trans hj) e
  · intro e'; exact absurd e' e
  · intro e'; exact absurd e'.symm e
theorem AHeap.del_upd_ne (e : b ≠ b') : (h.upd b c).del b' = (h.del b').upd b c := by
  funext i; by_cases hi : i = b <;> by_cases hj : i = b' <;> simp [AHeap.upd, AHeap.del, hi, hj]
  · exact absurd (hi.symm.trans hj) e
  · intro e'; exact absurd e' e
  · intro e'; exact absurd e'.symm e
@[simp] theorem AHeap.upd_del : (h.del b).upd b c = h.upd b c := by
  funext i; by_cases hi : i = b <;> simp [AHeap.upd, AHeap.del, hi]
@[simp] theorem AHeap.del_none (e : h b = none) : h.del b = h := by
  funext i; by_cases hi : i = b <;> simp [AHeap.del, hi, e]
theorem AHeap.del_empty : AHeap.empty.del b = AHeap.empty := AHeap.del_none rfl
@[simp] theorem AHeap.un_empty : h.un AHeap.empty = h := by
  funext i; simp only [AHeap.un, AHeap.empty]; cases h i <;> rfl
@[simp] theorem AHeap.empty_un : AHeap.empty.un h = h := rfl
theorem AHeap.un_at : h.un g b = match h b with | some c => some c | none => g b := rfl
theorem AHeap.un_some (e : h b = some c) : h.un g b = some c := by simp [AHeap.un, e]
theorem AHeap.un_none (e : h b = none) : h.un g b = g b := by simp [AHeap.un, e]
theorem AHeap.un_eq_none : h.un g b = none ↔ h b = none ∧ g b = none := by
  simp only [AHeap.un]; cases h b <;> simp
theorem AHeap.un_upd : (h.upd b c).un g = (h.un g).upd b c := by
  funext i; by_cases hi : i = b <;> simp [AHeap.un, AHeap.upd, hi]
theorem AHeap.un_del (e : g b = none) : (h.del b).un g = (h.un g).del b := by
  funext i; by_cases hi : i = b <;> simp [AHeap.un, AHeap.del, hi, e]
theorem AHeap.un_assoc : (h.un g).un k = h.un (g.un k) := by
  funext i; simp only [AHeap.un]; cases h i <;> rfl
theorem Disj.comm (d : Disj h g) : Disj g h := fun b => (d b).symm
theorem Disj.un_comm (d : Disj h g) : h.un g = g.un h := by
  funext i
  simp only [AHeap.un]
  rcases d i with e | e
  · rw [e]; cases g i <;> rfl
  · rw [e]; cases h i <;> rfl
theorem Disj.empty : Disj AHeap.empty g := fun _ => .inl rfl
theorem Disj.none_right (d : Disj h g) (e : h b = some c) : g b = none := by
  rcases d b with h1 | h1
  · rw [e] at h1; cases h1
  · exact h1
theorem Disj.upd (d : Disj h g) (e : g b = none) : Disj (h.upd b c) g := fun i => by
  by_cases hi : i = b
  · subst hi; exact .inr e
  · rw [AHeap.upd_ne hi]; exact d i
theorem Disj.del (d : Disj h g) : Disj (h.del b) g := fun i => by
  by_cases hi : i = b
  · subst hi; exact .inl AHeap.del_same
  · rw [AHeap.del_ne hi]; exact d i
theorem Disj.un_left (d : Disj h k) (d' : Disj g k) : Disj (h.un g) k := fun i => by
  rcases d i with e | e
  · rcases d' i with e' | e'
    · exact .inl (AHeap.un_eq_none.2 ⟨e, e'⟩)
    · exact .inr e'
  · exact .inr e
theorem Disj.of_un_left (d : Disj (h.un g) k) : Disj h k := fun i => by
  rcases d i with e | e
  · exact .inl (AHeap.un_eq_none.1 e).1
  · exact .inr e
theorem Disj.of_un_right (d : Disj (h.un g) k) : Disj g k := fun i => by
  rcases d i with e | e
  · exact .inl (AHeap.un_eq_none.1 e).2
  · exact .inr e
theorem Disj.un_right (d : Disj h g) (d' : Disj h k) : Disj h (g.un k) := (Disj.un_left d.comm d'.comm).comm
end heap
end Go.AH
