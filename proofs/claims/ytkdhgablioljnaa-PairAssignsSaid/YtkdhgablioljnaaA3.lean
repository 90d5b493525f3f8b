/-
  The layer: AhSimp AhTools AhSimp2 AhDraw AhRange AhBase AhBar.
-/
import Derived.Test.YtkdhgablioljnaaA2
set_option linter.unusedSimpArgs false
set_option linter.unusedVariables false
set_option linter.unusedSectionVars false
section
/-
  The calculus as rewrite rules.
-/
namespace Go.AH
open Go
universe u

/-- An equation that simp does not take for one by computation: its proofs are then checked step by step. -/
theorem nrfl {α : Sort u} {a b : α} (h : a = b) : a = b := h
/-- A barrier for simp: a congruence that always counts as a step, so that what follows is left alone. -/
@[irreducible] def keep {α : Sort u} (x : α) : α := x
@[simp] theorem keep_eq {α : Sort u} (x : α) : keep x = x := by unfold keep; exact Eq.refl x

@[simp] theorem onSome_some {α : Type} (v : α) (K : α → Prop) : onSome (some v) K = K v := nrfl rfl
@[simp] theorem onSome_none {α : Type} (K : α → Prop) : onSome none K = False := nrfl rfl
@[simp] theorem onSome_ite {α : Type} (c : Prop) [Decidable c] (x y : Option α) (K : α → Prop) : onSome (if c then x else y) K = ((c → onSome x K) ∧ (¬ c → onSome y K)) := by
  split <;> simp [*]
@[simp] theorem onSome_map {α β : Type} (o : Option α) (f : α → β) (K : β → Prop) : onSome (o.map f) K = onSome o fun v => K (f v) := by cases o <;> rfl
theorem onSome_congr {α : Type} {o o' : Option α} {K : α → Prop} (h : keep o = o') : onSome o K = onSome o' K := by rw [← h, keep_eq]

def Fresh (h : AHeap) (b : Nat) : Prop := h b = none
@[simp] theorem fresh_empty (b : Nat) : Fresh AHeap.empty b = True := by simp [Fresh]
@[simp] theorem fresh_upd (h : AHeap) (b b' : Nat) (c : Chunk) : Fresh (h.upd b c) b' = (¬ b' = b ∧ ¬ b = b' ∧ Fresh h b') := by
  unfold Fresh
  by_cases e : b' = b
  · subst e; simp
  · have : ¬ b = b' := fun h => e h.symm
    simp [AHeap.upd_ne e, e, this]
def newA (h : AHeap) (c : Chunk) (F : Nat → AHeap → Prop) : Prop := ∀ b, Fresh h b → F b (h.upd b c)
theorem newA_congr {h h' : AHeap} {c c' : Chunk} {F : Nat → AHeap → Prop} (e : keep h = h') (e' : c = c') : newA h c F = newA h' c' F := by rw [← e, e', keep_eq]

@[simp] theorem AHeap.upd_get (h : AHeap) (b b' : Nat) (c : Chunk) : h.upd b c b' = if b' = b then some c else h b' := nrfl rfl
@[simp] theorem AHeap.upd_del_if (h : AHeap) (b b' : Nat) (c : Chunk) : (h.upd b c).del b' = if b' = b then h.del b' else (h.del b').upd b c := by
  split
  · next e => subst e; funext i; by_cases hi : i = b' <;> simp [AHeap.upd, AHeap.del, hi]
  · next e => exact AHeap.del_upd_ne (fun h => e h.symm)
attribute [simp] AHeap.del_empty

def AF.bot : AF := fun _ => .undef
@[simp] theorem AF.bot_at (i : Nat) : AF.bot i = .undef := nrfl rfl
@[simp] theorem AF.putO_some (t : AF) (d : Nat) (v : AV) : t.putO (some d) v = t.put d v := nrfl rfl
@[simp] theorem AF.putO_none (t : AF) (v : AV) : t.putO none v = t := nrfl rfl
@[simp] theorem AF.put_get (t : AF) (d i : Nat) (v : AV) : t.put d v i = if i = d then v else t i := nrfl rfl
@[simp] theorem AF.put_put (t : AF) (d : Nat) (v v' : AV) : (t.put d v).put d v' = t.put d v' := by
  funext i; by_cases h : i = d <;> simp [h]

@[simp] theorem entryF0 : entryF [] = AF.bot := nrfl rfl
theorem entryF_snoc (l : List AV) (a : AV) : entryF (l ++ [a]) = (entryF l).put l.length a := by
  funext i
  simp only [entryF, AF.put_get, List.getD_eq_getElem?_getD]
  rcases Nat.lt_trichotomy i l.length with h | h | h
  · rw [List.getElem?_append_left h, if_neg (by omega)]
  · subst h; simp
  · rw [List.getElem?_eq_none (by simp; omega), if_neg (by omega), List.getElem?_eq_none (by omega)]
@[simp] theorem entryF1 (a : AV) : entryF [a] = AF.bot.put 0 a := entryF_snoc [] a
@[simp] theorem entryF2 (a b : AV) : entryF [a, b] = (AF.bot.put 0 a).put 1 b := by rw [← entryF1]; exact entryF_snoc [a] b
@[simp] theorem entryF3 (a b c : AV) : entryF [a, b, c] = ((AF.bot.put 0 a).put 1 b).put 2 c := by rw [← entryF2]; exact entryF_snoc [a, b] c
@[simp] theorem entryF4 (a b c d : AV) : entryF [a, b, c, d] = (((AF.bot.put 0 a).put 1 b).put 2 c).put 3 d := by rw [← entryF3]; exact entryF_snoc [a, b, c] d
@[simp] theorem entryF5 (a b c d e : AV) : entryF [a, b, c, d, e] = ((((AF.bot.put 0 a).put 1 b).put 2 c).put 3 d).put 4 e := by rw [← entryF4]; exact entryF_snoc [a, b, c, d] e
@[simp] theorem entryF6 (a b c d e f : AV) : entryF [a, b, c, d, e, f] = (((((AF.bot.put 0 a).put 1 b).put 2 c).put 3 d).put 4 e).put 5 f := by rw [← entryF5]; exact entryF_snoc [a, b, c, d, e] f
@[simp] theorem entryF7 (a b c d e f g : AV) : entryF [a, b, c, d, e, f, g] = ((((((AF.bot.put 0 a).put 1 b).put 2 c).put 3 d).put 4 e).put 5 f).put 6 g := by rw [← entryF6]; exact entryF_snoc [a, b, c, d, e, f] g
@[simp] theorem entryF8 (a b c d e f g i : AV) : entryF [a, b, c, d, e, f, g, i] = (((((((AF.bot.put 0 a).put 1 b).put 2 c).put 3 d).put 4 e).put 5 f).put 6 g).put 7 i := by rw [← entryF7]; exact entryF_snoc [a, b, c, d, e, f, g] i

section
variable {P : Program} {t t' : AF} {h h' : AHeap} {K : AF → AHeap → Prop} {Q : Exit → AF → AHeap → Prop} {ro : Option Nat} {N : Nat} {ops : Array Oper} {rest : List Oper}

@[simp] theorem evalA_tmp (i : Nat) : evalA t (.tmp i) = t i := nrfl rfl
@[simp] theorem evalA_const (v : Value) : evalA t (.const v) = cval v := nrfl rfl
@[simp] theorem evalA_func (f : FuncId) : evalA t (.func f) = .fn (.func f) [] [] := nrfl rfl
@[simp] theorem cval_bool (b : Bool) : cval (.bool b) = .bool b := nrfl rfl
@[simp] theorem cval_int (k : IntKind) (n : Int) : cval (.int k n) = .int k n := nrfl rfl
@[simp] theorem cval_str (s : ByteArray) : cval (.string s) = .str s.data.toList := nrfl rfl
@[simp] theorem cval_nilsl : cval (.slice none 0 0) = .nilsl := nrfl rfl
@[simp] theorem cval_nilptr : cval (.pointer none) = .nilptr := nrfl rfl
@[simp] theorem cval_nilmap : cval (.map none) = .nilmap := nrfl rfl
@[simp] theorem cval_nilfn : cval .nilFunc = .nilfn := nrfl rfl
@[simp] theorem cval_nilif : cval .nilIface = .nilif := nrfl rfl

/-! congruence: what follows is left alone -/
theorem awp_congr {c : Code} (e : keep t = t') (e' : h = h') : awp P ro N c Q t h = awp P ro N c Q t' h' := by rw [← e, e', keep_eq]
theorem awpOps_congr (e : keep t = t') (e' : h = h') : awpOps P ops K rest t h = awpOps P ops K rest t' h' := by rw [← e, e', keep_eq]
theorem opStep_congr {o : Oper} (e : keep t = t') (e' : h = h') : opStep P o K t h = opStep P o K t' h' := by rw [← e, e', keep_eq]
theorem AWP_congr {c : Code} (e : keep t = t') (e' : h = h') : AWP P ro N c Q t h = AWP P ro N c Q t' h' := by rw [← e, e', keep_eq]
theorem awpLoop_congr {body : (Exit → AF → AHeap → Prop) → AF → AHeap → Prop} (e : keep t = t') (e' : h = h') : awpLoop body Q t h = awpLoop body Q t' h' := by rw [← e, e', keep_eq]
theorem ACalls_congr {f : FuncId} {as as' : List AV} {R : AV → AHeap → Prop} (e : keep as = as') (e' : h = h') : ACalls P f as h R = ACalls P f as' h' R := by rw [← e, e', keep_eq]
theorem AYield_congr {l : Nat} {as as' : List AV} {R : AV → AHeap → Prop} (e : keep as = as') (e' : h = h') : AYield P l as h R = AYield P l as' h' R := by rw [← e, e', keep_eq]
theorem ACallV_congr {f f' : AV} {as as' : List AV} {R : AV → AHeap → Prop} (ef : keep f = f') (e : as = as') (e' : h = h') : ACallV P f as h R = ACallV P f' as' h' R := by rw [← ef, e, e', keep_eq]
theorem finA_congr {r r' : AV} {R : AV → AHeap → Prop} (e : keep r = r') (e' : h = h') : finA R r h = finA R r' h' := by rw [← e, e', keep_eq]
theorem turnA_congr (e : keep t = t') (e' : h = h') : turnA K t h = turnA K t' h' := by rw [← e, e', keep_eq]
@[simp] theorem ACallV_func {f : FuncId} {first caps as : List AV} {R : AV → AHeap → Prop} : ACallV P (.fn (.func f) first caps) as h R = ACalls P f (first ++ as ++ caps) h R := nrfl rfl
@[simp] theorem ACallV_yield {l : Nat} {as : List AV} {R : AV → AHeap → Prop} : ACallV P (.fn (.yield l) [] []) as h R = AYield P l as h R := nrfl rfl

/-! code -/
@[simp] theorem awp_skip : awp P ro N .skip Q t h = Q .normal t h := nrfl rfl
@[simp] theorem awp_label {l : Nat} : awp P ro N (.label l) Q t h = Q .normal t h := nrfl rfl
@[simp] theorem awp_region {id : Nat} {l : List Oper} : awp P ro N (.region id l.toArray false) Q t h = awpOps P l.toArray (Q .normal) l t h := nrfl rfl
@[simp] theorem awp_draw {id : Nat} : awp P ro N (.region id ops true) Q t h = AWP P ro N (.region id ops true) Q t h := nrfl rfl
@[simp] theorem awp_seq {x y : Code} : awp P ro N (.seq x y) Q t h = awp P ro N x (thenA (awp P ro N y Q) Q) t h := nrfl rfl
@[simp] theorem awp_cond {c : Operand} {x y : Code} : awp P ro N (.cond c x y) Q t h = condA (evalA t c) (awp P ro N x Q t h) (awp P ro N y Q t h) := nrfl rfl
@[simp] theorem awp_block {id : Nat} {c : Code} : awp P ro N (.block id c) Q t h = awp P ro N c (blockA id Q) t h := nrfl rfl
@[simp] theorem awp_loop {c : Code} : awp P ro N (.loop c) Q t h = awpLoop (awp P ro N c) Q t h := nrfl rfl
@[simp] theorem awp_exit {id : Nat} : awp P ro N (.exit id) Q t h = Q (.exit id) t h := nrfl rfl
@[simp] theorem awp_ret : awp P ro N .ret Q t h = Q .ret t h := nrfl rfl
@[simp] theorem awp_rangeFunc {f : Operand} {ps : Array Tmp} {as b : Code} : awp P ro N (.rangeFunc f ps as b) Q t h = AWP P ro N (.rangeFunc f ps as b) Q t h := nrfl rfl
@[simp] theorem awp_scope {c : Code} : awp P ro N (.scope c) Q t h = AWP P ro N (.scope c) Q t h := nrfl rfl
@[simp] theorem thenA_normal : thenA K Q .normal = K := nrfl rfl
@[simp] theorem thenA_ret : thenA K Q .ret = Q .ret := nrfl rfl
@[simp] theorem thenA_exit {id : Nat} : thenA K Q (.exit id) = Q (.exit id) := nrfl rfl
@[simp] theorem blockA_exit {id id' : Nat} : blockA id Q (.exit id') = if id' = id then Q .normal else Q (.exit id') := nrfl rfl
@[simp] theorem blockA_normal {id : Nat} : blockA id Q .normal = Q .normal := nrfl rfl
@[simp] theorem blockA_ret {id : Nat} : blockA id Q .ret = Q .ret := nrfl rfl
theorem condA_congr {v v' : AV} {X Y : Prop} (e : keep v = v') : condA v X Y = condA v' X Y := by rw [← e, keep_eq]
theorem condA_bool (b : Bool) (X Y : Prop) : condA (.bool b) X Y = ((b = true → X) ∧ (b = false → Y)) := rfl
@[simp] theorem condA_true (X Y : Prop) : condA (.bool true) X Y = X := by simp [condA_bool]
@[simp] theorem condA_false (X Y : Prop) : condA (.bool false) X Y = Y := by simp [condA_bool]
theorem condA_case {b : Bool} {X Y : Prop} (x : b = true → X) (y : b = false → Y) : condA (.bool b) X Y := ⟨x, y⟩
theorem condA_dec {p : Prop} [Decidable p] {X Y : Prop} (x : p → X) (y : ¬ p → Y) : condA (.bool (decide p)) X Y := ⟨fun h => x (of_decide_eq_true h), fun h => y (of_decide_eq_false h)⟩
@[simp] theorem retQ_ret {rs : List ResultVar} {R : AV → AHeap → Prop} : retQ P rs R .ret t h = onSome (resultsA P t h rs) fun r => finA R r h := by
  simp only [retQ, onSome]; cases resultsA P t h rs <;> rfl
@[simp] theorem retQ_normal {rs : List ResultVar} {R : AV → AHeap → Prop} : retQ P rs R .normal t h = onSome (resultsA P t h rs) fun r => finA R r h := by
  simp only [retQ, onSome]; cases resultsA P t h rs <;> rfl
@[simp] theorem resultsA_one {x : ResultVar} : resultsA P t h [x] = resA P t h x := by
  unfold resultsA; simp only [resL]; cases resA P t h x <;> rfl
theorem resultsA_many {xs : List ResultVar} (hl : xs.length ≠ 1) : resultsA P t h xs = (resL P t h xs).map .tup := by
  unfold resultsA
  cases e : resL P t h xs with
  | none => rfl
  | some vs =>
    have key : ∀ (xs : List ResultVar) (vs : List AV), resL P t h xs = some vs → vs.length = xs.length := by
      intro xs
      induction xs with
      | nil => intro vs e; simp only [resL, Option.some.injEq] at e; simp [← e]
      | cons x xs ih =>
        intro vs e
        simp only [resL] at e
        split at e
        · next v vs' _ h2 => simp only [Option.some.injEq] at e; subst e; simp [ih _ h2]
        · cases e
    have := key _ _ e
    match vs, this with
    | [], _ => rfl
    | [v], this => exact absurd this.symm hl
    | _ :: _ :: _, _ => rfl
@[simp] theorem resultsA_zero : resultsA P t h [] = some (.tup []) := nrfl rfl
@[simp] theorem resultsA_two {x y : ResultVar} : resultsA P t h [x, y] = (resL P t h [x, y]).map .tup := resultsA_many (by simp)
@[simp] theorem resultsA_three {x y z : ResultVar} : resultsA P t h [x, y, z] = (resL P t h [x, y, z]).map .tup := resultsA_many (by simp)
@[simp] theorem resultsA_four {x y z u : ResultVar} : resultsA P t h [x, y, z, u] = (resL P t h [x, y, z, u]).map .tup := resultsA_many (by simp)
def resB (P : Program) (ty : TypeId) (h : AHeap) (p : AV) : Option AV := match p with
  | .ptr b off => match h b with
    | some (.cells cs) => loadA P ty (cs.drop off)
    | _ => none
  | .fptr cells => loadA P ty cells
  | _ => none
@[simp] theorem resA_tmp {i : Nat} : resA P t h (.tmp i) = some (t i) := nrfl rfl
@[simp] theorem resA_cell {a : Nat} {ty : TypeId} : resA P t h (.cell a ty) = resB P ty h (t a) := nrfl rfl
def cellsAt (h : AHeap) (b off : Nat) : Option (List AV) := match h b with | some (.cells cs) => some (cs.drop off) | _ => none
theorem cellsAt_eq {b off : Nat} {cs : List AV} (e : h b = some (.cells cs)) : cellsAt h b off = some (cs.drop off) := by simp [cellsAt, e]
@[simp] theorem cellsAt_upd {b b' off : Nat} {cs : List AV} : cellsAt (h.upd b (.cells cs)) b' off = if b' = b then some (cs.drop off) else cellsAt h b' off := by
  unfold cellsAt; by_cases e : b' = b <;> simp [e]
@[simp] theorem cellsAt_upd_map {b b' off : Nat} {sh : KShape} {es : List (AV × AV)} : cellsAt (h.upd b (.map sh es)) b' off = if b' = b then none else cellsAt h b' off := by
  unfold cellsAt; by_cases e : b' = b <;> simp [e]
@[simp] theorem cellsAt_upd_sit {b b' off : Nat} {s : List UInt8} {p : Nat} : cellsAt (h.upd b (.sit s p)) b' off = if b' = b then none else cellsAt h b' off := by
  unfold cellsAt; by_cases e : b' = b <;> simp [e]
@[simp] theorem resB_ptr {ty : TypeId} {b off : Nat} : resB P ty h (.ptr b off) = (cellsAt h b off).bind (loadA P ty) := by
  simp only [resB, cellsAt]; cases h b with
  | none => rfl
  | some c => cases c <;> rfl
@[simp] theorem resB_fptr {ty : TypeId} {cells : List AV} : resB P ty h (.fptr cells) = loadA P ty cells := nrfl rfl
theorem resL_cons {r : ResultVar} {rs : List ResultVar} : resL P t h (r :: rs) = (resA P t h r).bind fun v => (resL P t h rs).map fun vs => v :: vs := by
  simp only [resL]
  cases resA P t h r with
  | none => cases resL P t h rs <;> rfl
  | some v => cases resL P t h rs <;> rfl
attribute [simp] resL_cons
@[simp] theorem resL_nil : resL P t h [] = some [] := nrfl rfl

/-! operations -/
@[simp] theorem awpOps_nil : awpOps P ops K [] t h = K t h := nrfl rfl
@[simp] theorem awpOps_plain {d : Option Nat} {op : Op} {ty : TypeId} {pos : String} {af : Array Edge} :
    awpOps P ops K ({ dst := d, op := op, type := ty, pos := pos, after := af, guard := none } :: rest) t h = opStep P { dst := d, op := op, type := ty, pos := pos, after := af, guard := none } (awpOps P ops K rest) t h := rfl
def guardA (v : AV) (want : Bool) (X Y : Prop) : Prop := match v with | .bool b => (b = want → X) ∧ (¬ b = want → Y) | .tup [] => Y | _ => False
theorem guardA_congr {v v' : AV} {want : Bool} {X Y : Prop} (e : keep v = v') : guardA v want X Y = guardA v' want X Y := by rw [← e, keep_eq]
theorem guardA_bool {b want : Bool} {X Y : Prop} : guardA (.bool b) want X Y = ((b = want → X) ∧ (¬ b = want → Y)) := rfl
@[simp] theorem guardA_tup {want : Bool} {X Y : Prop} : guardA (.tup []) want X Y = Y := nrfl rfl
@[simp] theorem guardA_tt {X Y : Prop} : guardA (.bool true) true X Y = X := by simp [guardA_bool]
@[simp] theorem guardA_tf {X Y : Prop} : guardA (.bool true) false X Y = Y := by simp [guardA_bool]
@[simp] theorem guardA_ft {X Y : Prop} : guardA (.bool false) true X Y = Y := by simp [guardA_bool]
@[simp] theorem guardA_ff {X Y : Prop} : guardA (.bool false) false X Y = X := by simp [guardA_bool]
theorem guardA_case {b want : Bool} {X Y : Prop} (x : b = true → guardA (.bool b) want X Y) (y : b = false → guardA (.bool b) want X Y) : guardA (.bool b) want X Y := by
  cases b
  · exact y rfl
  · exact x rfl
theorem guardA_dec {p : Prop} [Decidable p] {want : Bool} {X Y : Prop} (x : p → guardA (.bool (decide p)) want X Y) (y : ¬ p → guardA (.bool (decide p)) want X Y) : guardA (.bool (decide p)) want X Y := by
  by_cases h : p
  · exact x h
  · exact y h
theorem awpOps_guard {d : Option Nat} {op : Op} {ty : TypeId} {pos : String} {af : Array Edge} {j : Nat} {want : Bool} :
    awpOps P ops K ({ dst := d, op := op, type := ty, pos := pos, after := af, guard := some (j, want) } :: rest) t h =
      onSome ((ops[j]?).bind (·.dst)) fun g => guardA (t g) want (opStep P { dst := d, op := op, type := ty, pos := pos, after := af, guard := some (j, want) } (awpOps P ops K rest) t h) (awpOps P ops K rest (t.putO d (.tup [])) h) := by
  simp only [awpOps, wantedA]
  cases (ops[j]?).bind (·.dst) with
  | none => rfl
  | some g =>
    simp only [onSome_some]
    cases t g <;> try simp [guardA]
    · rename_i b
      cases b <;> cases want <;> simp
    · rename_i vs
      cases vs <;> simp
attribute [simp] awpOps_guard

section
variable {d : Option Nat} {ty : TypeId} {pos : String} {af : Array Edge} {g : Option (Nat × Bool)}
@[simp] theorem step_move {x : Operand} : opStep P { dst := d, op := .move x, type := ty, pos := pos, after := af, guard := g } K t h = K (t.putO d (evalA t x)) h := nrfl rfl
@[simp] theorem step_assign {x : Operand} : opStep P { dst := d, op := .assign x, type := ty, pos := pos, after := af, guard := g } K t h = K (t.putO d (evalA t x)) h := nrfl rfl
def pickA (c : AV) (a b : AV) : Option AV := match c with | .bool x => some (if x then a else b) | _ => none
@[simp] theorem pickA_bool {x : Bool} {a b : AV} : pickA (.bool x) a b = some (if x then a else b) := nrfl rfl
theorem step_pure {op : Op} {r : Option AV} (e : ∀ K' : AV → AHeap → Prop, opRes P { dst := d, op := op, type := ty, pos := pos, after := af, guard := g } t h K' = onSome r fun v => K' v h) :
    opStep P { dst := d, op := op, type := ty, pos := pos, after := af, guard := g } K t h = onSome r fun v => K (t.putO d v) h := e _
@[simp] theorem step_pick {c a b : Operand} : opStep P { dst := d, op := .pick c a b, type := ty, pos := pos, after := af, guard := g } K t h = onSome (pickA (evalA t c) (evalA t a) (evalA t b)) fun v => K (t.putO d v) h := by
  refine step_pure fun K' => ?_
  simp only [opRes, effStep, pureA, pickA]; cases evalA t c <;> rfl
@[simp] theorem step_load {x : Operand} {lt : TypeId} : opStep P { dst := d, op := .load lt x, type := ty, pos := pos, after := af, guard := g } K t h = onSome (resB P lt h (evalA t x)) fun v => K (t.putO d v) h := by
  refine step_pure fun K' => ?_
  simp only [opRes, effStep, pureA, resB]; rfl
def nilA : AV → Option AV | .ptr b off => some (.ptr b off) | .fptr c => some (.fptr c) | _ => none
@[simp] theorem nilA_ptr {b off : Nat} : nilA (.ptr b off) = some (.ptr b off) := nrfl rfl
@[simp] theorem nilA_fptr {c : List AV} : nilA (.fptr c) = some (.fptr c) := nrfl rfl
@[simp] theorem step_nilCheck {x : Operand} : opStep P { dst := d, op := .nilCheck x, type := ty, pos := pos, after := af, guard := g } K t h = onSome (nilA (evalA t x)) fun v => K (t.putO d v) h := by
  refine step_pure fun K' => ?_
  simp only [opRes, effStep, pureA, nilA]; rfl
@[simp] theorem step_binOp {op : BinOp} {xt yt : TypeId} {x y : Operand} : opStep P { dst := d, op := .binOp op xt x y yt, type := ty, pos := pos, after := af, guard := g } K t h = onSome (binA P op xt (evalA t x) (evalA t y)) fun v => K (t.putO d v) h := nrfl rfl
@[simp] theorem step_unOp {op : UnOp} {xt : TypeId} {x : Operand} : opStep P { dst := d, op := .unOp op xt x, type := ty, pos := pos, after := af, guard := g } K t h = onSome (unA op (evalA t x)) fun v => K (t.putO d v) h := nrfl rfl
@[simp] theorem step_convert {s e : TypeId} {x : Operand} : opStep P { dst := d, op := .convert s e x, type := ty, pos := pos, after := af, guard := g } K t h = onSome (convA P h s e (evalA t x)) fun v => K (t.putO d v) h := nrfl rfl
def ifaceA (P : Program) (xt : TypeId) (x : AV) : Option AV := match P.underlying xt with | some (.interface _) => none | some _ => some (.iface xt x) | none => none
@[simp] theorem step_makeInterface {xt : TypeId} {x : Operand} : opStep P { dst := d, op := .makeInterface xt x, type := ty, pos := pos, after := af, guard := g } K t h = onSome (ifaceA P xt (evalA t x)) fun v => K (t.putO d v) h := nrfl rfl
@[simp] theorem step_makeFunc {f : Fn} {first caps : Array Operand} : opStep P { dst := d, op := .makeFunc f first caps, type := ty, pos := pos, after := af, guard := g } K t h = K (t.putO d (.fn f (first.toList.map (evalA t)) (caps.toList.map (evalA t)))) h := nrfl rfl
theorem arrSliceA_fptr {n : Nat} {e : TypeId} {cells : List AV} {lo hi : Option AV} : arrSliceA P h n e (.fptr cells) lo hi = match szT P e, boundA 0 lo, boundA n hi with
  | some es, some l, some u => if 0 ≤ l ∧ l ≤ u ∧ u ≤ n then some (.sl (u.toNat - l.toNat) ((cells.drop (l.toNat * es)).take ((u.toNat - l.toNat) * es))) else none
  | _, _, _ => none := nrfl rfl
theorem arrSliceA_ptr {n b off : Nat} {e : TypeId} {lo hi : Option AV} : arrSliceA P h n e (.ptr b off) lo hi = match szT P e, boundA 0 lo, boundA n hi with
  | some es, some l, some u => if 0 ≤ l ∧ l ≤ u ∧ u ≤ n then (match cellsAt h b 0 with
    | some cs => if off + n * es ≤ cs.length ∧ n < 2 ^ 63 then (if l = 0 ∨ l < u then some (.osl b (off + l.toNat * es) (u.toNat - l.toNat) es) else some (.sl 0 [])) else none
    | none => none) else none
  | _, _, _ => none := by
  unfold arrSliceA cellsAt
  cases szT P e with
  | none => rfl
  | some es =>
    cases boundA 0 lo with
    | none => rfl
    | some l =>
      cases boundA (n : Int) hi with
      | none => rfl
      | some u =>
        by_cases hc : 0 ≤ l ∧ l ≤ u ∧ u ≤ (n : Int)
        · simp only [hc, and_self, if_true]
          cases h b with
          | none => rfl
          | some c => cases c <;> simp
        · simp only [hc, if_false]
def sliceB (P : Program) (h : AHeap) (xt : TypeId) (x : AV) (lo hi : Option AV) : Option AV := match P.underlying xt with | some (.array n e) => arrSliceA P h n e x lo hi | _ => sliceA P xt x lo hi
@[simp] theorem step_slice {xt : TypeId} {x : Operand} {lo hi : Option Operand} : opStep P { dst := d, op := .slice xt x lo hi none, type := ty, pos := pos, after := af, guard := g } K t h = onSome (sliceB P h xt (evalA t x) (lo.map (evalA t)) (hi.map (evalA t))) fun v => K (t.putO d v) h := nrfl rfl
@[simp] theorem step_slice3 {xt : TypeId} {x m : Operand} {lo hi : Option Operand} : opStep P { dst := d, op := .slice xt x lo hi (some m), type := ty, pos := pos, after := af, guard := g } K t h = onSome (slice3A P xt (evalA t x) (lo.map (evalA t)) (hi.map (evalA t)) (evalA t m)) fun v => K (t.putO d v) h := nrfl rfl
@[simp] theorem step_fieldAddr {s : TypeId} {x : Operand} {f : Nat} : opStep P { dst := d, op := .fieldAddr s x f, type := ty, pos := pos, after := af, guard := g } K t h = onSome (fieldAddrA P s (evalA t x) f) fun v => K (t.putO d v) h := nrfl rfl
@[simp] theorem step_field {s : TypeId} {x : Operand} {f : Nat} : opStep P { dst := d, op := .field s x f, type := ty, pos := pos, after := af, guard := g } K t h = onSome (fieldA P s (evalA t x) f) fun v => K (t.putO d v) h := nrfl rfl
@[simp] theorem step_indexAddr {xt : TypeId} {x i : Operand} : opStep P { dst := d, op := .indexAddr xt x i, type := ty, pos := pos, after := af, guard := g } K t h = onSome (indexAddrA P xt (evalA t x) (evalA t i)) fun v => K (t.putO d v) h := nrfl rfl
@[simp] theorem step_index {xt : TypeId} {x i : Operand} : opStep P { dst := d, op := .index xt x i, type := ty, pos := pos, after := af, guard := g } K t h = onSome (indexA P xt (evalA t x) (evalA t i)) fun v => K (t.putO d v) h := nrfl rfl
def extractA (x : AV) (i : Nat) : Option AV := match x with | .tup vs => vs[i]? | _ => none
@[simp] theorem extractA_tup {vs : List AV} {i : Nat} : extractA (.tup vs) i = vs[i]? := nrfl rfl
@[simp] theorem step_extract {x : Operand} {i : Nat} : opStep P { dst := d, op := .extract x i, type := ty, pos := pos, after := af, guard := g } K t h = onSome (extractA (evalA t x) i) fun v => K (t.putO d v) h := by
  refine step_pure fun K' => ?_
  simp only [opRes, effStep, pureA, extractA]; rfl
@[simp] theorem step_build {bt : TypeId} {parts : Array (Nat × Operand)} : opStep P { dst := d, op := .build bt parts, type := ty, pos := pos, after := af, guard := g } K t h = onSome (buildA P bt (parts.toList.map fun p => (p.1, evalA t p.2))) fun v => K (t.putO d v) h := nrfl rfl
@[simp] theorem step_len {x : Operand} {xt : TypeId} : opStep P { dst := d, op := .call { callee := .builtin .len, args := #[x], argTypes := #[xt] }, type := ty, pos := pos, after := af, guard := g } K t h = onSome (lenA P h xt (evalA t x)) fun v => K (t.putO d v) h := nrfl rfl
@[simp] theorem step_call {f : Operand} {args : Array Operand} {ats : Array TypeId} : opStep P { dst := d, op := .call { callee := .value f, args := args, argTypes := ats }, type := ty, pos := pos, after := af, guard := g } K t h =
    ACallV P (evalA t f) (args.toList.map (evalA t)) h (fun r h' => K (t.putO d r) h') := rfl
@[simp] theorem step_invoke {r : Operand} {m : String} {args : Array Operand} {ats : Array TypeId} : opStep P { dst := d, op := .call { callee := .invoke r m, args := args, argTypes := ats }, type := ty, pos := pos, after := af, guard := g } K t h =
    invRes P (evalA t r) m (args.toList.map (evalA t)) h (fun r h' => K (t.putO d r) h') := rfl
@[simp] theorem step_alloc {e : TypeId} : opStep P { dst := d, op := .alloc e, type := ty, pos := pos, after := af, guard := g } K t h = onSome (zeroT P e) fun z => newA h (.cells z) fun b h' => K (t.putO d (.ptr b 0)) h' := by
  simp only [opStep, opRes, effStep]; cases zeroT P e <;> rfl
@[simp] theorem step_box {e : TypeId} {x : Operand} : opStep P { dst := d, op := .box e x, type := ty, pos := pos, after := af, guard := g } K t h = ((evalA t x).fit = true ∧ newA h (.cells (evalA t x).cells) fun b h' => K (t.putO d (.ptr b 0)) h') := nrfl rfl
@[simp] theorem step_buildSlice {bt : TypeId} {len : Nat} {parts : Array (Nat × Operand)} : opStep P { dst := d, op := .buildSlice bt len parts, type := ty, pos := pos, after := af, guard := g } K t h =
    onSome (elemT P bt) fun e => onSome (fillA (fun i => some (i * e.2.1, e.2.1)) (zcells e.2.2.2 len) (parts.toList.map fun p => (p.1, evalA t p.2))) fun cells => len ≤ 65536 ∧ e.2.1 ≤ 128 ∧ newA h (.cells cells) fun b h' => K (t.putO d (.osl b 0 len e.2.1)) h' := by
  simp only [opStep, opRes, effStep]
  cases elemT P bt with
  | none => rfl
  | some e =>
    obtain ⟨e0, es, by_, z⟩ := e
    simp only [onSome_some]
    cases fillA (fun i => some (i * es, es)) (zcells z len) (parts.toList.map fun p => (p.1, evalA t p.2)) <;> rfl
def storeA (P : Program) (st : TypeId) (h : AHeap) (p v : AV) (K : AHeap → Prop) : Prop := match p with
  | .ptr b off => onSome (cellsAt h b 0) fun cs => v.fit = true ∧ szT P st = some v.cells.length ∧ off + v.cells.length ≤ cs.length ∧ K (h.upd b (.cells (splice cs off v.cells)))
  | _ => False
theorem storeA_congr {st : TypeId} {p p' v v' : AV} {K : AHeap → Prop} (e : keep h = h') (ep : p = p') (ev : v = v') : storeA P st h p v K = storeA P st h' p' v' K := by rw [← e, ep, ev, keep_eq]
@[simp] theorem storeA_ptr {st : TypeId} {b off : Nat} {v : AV} {K : AHeap → Prop} : storeA P st h (.ptr b off) v K = onSome (cellsAt h b 0) fun cs => v.fit = true ∧ szT P st = some v.cells.length ∧ off + v.cells.length ≤ cs.length ∧ K (h.upd b (.cells (splice cs off v.cells))) := nrfl rfl
@[simp] theorem step_store {st : TypeId} {a x : Operand} : opStep P { dst := d, op := .store st a x, type := ty, pos := pos, after := af, guard := g } K t h = storeA P st h (evalA t a) (evalA t x) fun h' => K (t.putO d .undef) h' := by
  simp only [opStep, opRes, effStep, storeA]
  cases evalA t a <;> first | rfl | skip
  rename_i b off
  simp only [cellsAt]
  cases h b with
  | none => rfl
  | some c => cases c <;> rfl
def makeA (h : AHeap) (e : TypeId × Nat × Nat × List AV) (l c : AV) (K : AV → AHeap → Prop) : Prop := match l, c with
  | .int _ l, .int _ c => 0 ≤ l ∧ l ≤ c ∧ c < 2 ^ 30 ∧ newA h (.cells (zcells e.2.2.2 l.toNat)) fun b h' => K (.osl b 0 l.toNat e.2.1) h'
  | _, _ => False
theorem makeA_congr {e : TypeId × Nat × Nat × List AV} {l l' c c' : AV} {K : AV → AHeap → Prop} (eh : keep h = h') (el : l = l') (ec : c = c') : makeA h e l c K = makeA h' e l' c' K := by rw [← eh, el, ec, keep_eq]
@[simp] theorem makeA_int {e : TypeId × Nat × Nat × List AV} {k k' : IntKind} {l c : Int} {K : AV → AHeap → Prop} : makeA h e (.int k l) (.int k' c) K = (0 ≤ l ∧ l ≤ c ∧ c < 2 ^ 30 ∧ newA h (.cells (zcells e.2.2.2 l.toNat)) fun b h' => K (.osl b 0 l.toNat e.2.1) h') := nrfl rfl
@[simp] theorem step_makeSlice {st : TypeId} {l c : Operand} : opStep P { dst := d, op := .makeSlice st l c, type := ty, pos := pos, after := af, guard := g } K t h = onSome (elemT P st) fun e => makeA h e (evalA t l) (evalA t c) fun r h' => K (t.putO d r) h' := by
  simp only [opStep, opRes, effStep]
  cases elemT P st with
  | none => rfl
  | some e =>
    obtain ⟨e0, es, by_, z⟩ := e
    simp only [onSome_some, makeA]
    cases evalA t l <;> cases evalA t c <;> rfl
/-- A map type: its key's shape, its element's zero. -/
def mapT (P : Program) (t : TypeId) : Option (KShape × Option AV) := match P.underlying t with
  | some (.map kt et) => (shapeT P kt).map fun sh => (sh, zeroV P et)
  | _ => none
@[simp] theorem step_makeMap {mt : TypeId} : opStep P { dst := d, op := .makeMap mt none, type := ty, pos := pos, after := af, guard := g } K t h = onSome (mapT P mt) fun m => newA h (.map m.1 []) fun b h' => K (t.putO d (.map b)) h' := by
  simp only [opStep, opRes, effStep, mapT]
  cases P.underlying mt with
  | none => rfl
  | some u => cases u <;> first | rfl | (rename_i kt et; simp only [onSome_map]; cases shapeT P kt <;> rfl)
def mapAt (h : AHeap) (x : AV) : Option (Nat × KShape × List (AV × AV)) := match x with
  | .map b => match h b with | some (.map sh es) => some (b, sh, es) | _ => none
  | _ => none
@[simp] theorem mapAt_upd {b b' : Nat} {sh : KShape} {es : List (AV × AV)} : mapAt (h.upd b (.map sh es)) (.map b') = if b' = b then some (b', sh, es) else mapAt h (.map b') := by
  unfold mapAt; by_cases e : b' = b <;> simp [e]
@[simp] theorem mapAt_upd_cells {b b' : Nat} {cs : List AV} : mapAt (h.upd b (.cells cs)) (.map b') = if b' = b then none else mapAt h (.map b') := by
  unfold mapAt; by_cases e : b' = b <;> simp [e]
@[simp] theorem mapAt_upd_sit {b b' : Nat} {s : List UInt8} {p : Nat} : mapAt (h.upd b (.sit s p)) (.map b') = if b' = b then none else mapAt h (.map b') := by
  unfold mapAt; by_cases e : b' = b <;> simp [e]
theorem mapAt_eq {b : Nat} {sh : KShape} {es : List (AV × AV)} (e : h b = some (.map sh es)) : mapAt h (.map b) = some (b, sh, es) := by simp [mapAt, e]
theorem mapAt_spec {x : AV} {b : Nat} {sh : KShape} {es : List (AV × AV)} (e : mapAt h x = some (b, sh, es)) : x = .map b ∧ h b = some (.map sh es) := by
  unfold mapAt at e
  split at e
  · split at e
    · next hb => cases e; exact ⟨rfl, hb⟩
    · cases e
  · cases e
theorem mapAt_none {x : AV} (e : mapAt h x = none) : ∀ b sh es, ¬ (x = .map b ∧ h b = some (.map sh es)) := by
  rintro b sh es ⟨rfl, hb⟩
  rw [mapAt_eq hb] at e; cases e
theorem step_mapUp {mt : TypeId} {m k x : Operand} {op : Op} (hop : op = .mapUpdate mt m k x ∨ op = .insert mt m k x) : opStep P { dst := d, op := op, type := ty, pos := pos, after := af, guard := g } K t h =
    onSome (mapT P mt) fun mm => onSome (mapAt h (evalA t m)) fun q => mm.1 = q.2.1 ∧ q.2.1.ok (evalA t k) = true ∧ K (t.putO d .undef) (h.upd q.1 (.map q.2.1 (mapSet q.2.2 (evalA t k) (evalA t x)))) := by
  rcases hop with rfl | rfl <;>
  · simp only [opStep, opRes, effStep, mapT]
    cases P.underlying mt with
    | none => rfl
    | some u =>
      cases u <;> first | rfl | skip
      rename_i kt et
      simp only [onSome_map]
      cases hm : mapAt h (evalA t m) with
      | none =>
        have hn := mapAt_none hm
        cases hs : shapeT P kt with
        | none =>
          simp only [onSome_none]
          cases e : evalA t m <;> first | rfl | skip
          rename_i b
          simp only
          cases hb : h b with
          | none => rfl
          | some c => cases c <;> first | rfl | simp
        | some sh =>
          simp only [onSome_some, onSome_none]
          cases e : evalA t m <;> first | rfl | skip
          rename_i b
          simp only
          cases hb : h b with
          | none => rfl
          | some c =>
            cases c <;> first | rfl | skip
            exact absurd ⟨e, hb⟩ (hn _ _ _)
      | some q =>
        obtain ⟨b, sh', es⟩ := q
        obtain ⟨e, hb⟩ := mapAt_spec hm
        rw [e]
        simp only [hb]
        cases hs : shapeT P kt with
        | none => simp
        | some sh => simp
@[simp] theorem step_mapUpdate {mt : TypeId} {m k x : Operand} : opStep P { dst := d, op := .mapUpdate mt m k x, type := ty, pos := pos, after := af, guard := g } K t h =
    onSome (mapT P mt) fun mm => onSome (mapAt h (evalA t m)) fun q => mm.1 = q.2.1 ∧ q.2.1.ok (evalA t k) = true ∧ K (t.putO d .undef) (h.upd q.1 (.map q.2.1 (mapSet q.2.2 (evalA t k) (evalA t x)))) := step_mapUp (.inl rfl)
@[simp] theorem step_insert {mt : TypeId} {m k x : Operand} : opStep P { dst := d, op := .insert mt m k x, type := ty, pos := pos, after := af, guard := g } K t h =
    onSome (mapT P mt) fun mm => onSome (mapAt h (evalA t m)) fun q => mm.1 = q.2.1 ∧ q.2.1.ok (evalA t k) = true ∧ K (t.putO d .undef) (h.upd q.1 (.map q.2.1 (mapSet q.2.2 (evalA t k) (evalA t x)))) := step_mapUp (.inr rfl)
@[simp] theorem step_lookup {mt : TypeId} {m k : Operand} {ok : Bool} : opStep P { dst := d, op := .lookup mt m k ok, type := ty, pos := pos, after := af, guard := g } K t h =
    onSome (mapT P mt) fun mm => onSome mm.2 fun z => onSome (mapAt h (evalA t m)) fun q => mm.1 = q.2.1 ∧ q.2.1.ok (evalA t k) = true ∧
      K (t.putO d (if ok then .tup [(mapGet q.2.2 (evalA t k)).getD z, .bool (mapGet q.2.2 (evalA t k)).isSome] else (mapGet q.2.2 (evalA t k)).getD z)) h := by
  simp only [opStep, opRes, effStep, mapT]
  cases P.underlying mt with
  | none => rfl
  | some u =>
    cases u <;> first | rfl | skip
    rename_i kt et
    simp only [onSome_map]
    cases hz : zeroV P et with
    | none => cases shapeT P kt <;> simp
    | some z =>
      simp only [onSome_some]
      cases hm : mapAt h (evalA t m) with
      | none =>
        have hn := mapAt_none hm
        cases hs : shapeT P kt with
        | none =>
          simp only [onSome_none]
          cases e : evalA t m <;> first | rfl | skip
          rename_i b
          simp only
          cases hb : h b with
          | none => rfl
          | some c => cases c <;> first | rfl | simp
        | some sh =>
          simp only [onSome_some, onSome_none]
          cases e : evalA t m <;> first | rfl | skip
          rename_i b
          simp only
          cases hb : h b with
          | none => rfl
          | some c =>
            cases c <;> first | rfl | skip
            exact absurd ⟨e, hb⟩ (hn _ _ _)
      | some q =>
        obtain ⟨b, sh', es⟩ := q
        obtain ⟨e, hb⟩ := mapAt_spec hm
        rw [e]
        simp only [hb]
        cases hs : shapeT P kt with
        | none => simp
        | some sh => simp
def rangeA (P : Program) (xt : TypeId) (x : AV) : Option (List UInt8) := match P.underlying xt, x with | some .string, .str s => some s | _, _ => none
@[simp] theorem step_range {xt : TypeId} {x : Operand} : opStep P { dst := d, op := .range xt x, type := ty, pos := pos, after := af, guard := g } K t h = onSome (rangeA P xt (evalA t x)) fun s => newA h (.sit s 0) fun b h' => K (t.putO d (.ptr b 0)) h' := by
  simp only [opStep, opRes, effStep, rangeA]
  cases P.underlying xt with
  | none => rfl
  | some u => cases u <;> first | rfl | (cases evalA t x <;> rfl)
def sitAt (h : AHeap) (x : AV) : Option (Nat × List UInt8 × Nat) := match x with
  | .ptr b 0 => match h b with | some (.sit s p) => some (b, s, p) | _ => none
  | _ => none
@[simp] theorem sitAt_upd {b b' : Nat} {s : List UInt8} {p : Nat} : sitAt (h.upd b (.sit s p)) (.ptr b' 0) = if b' = b then some (b', s, p) else sitAt h (.ptr b' 0) := by
  unfold sitAt; by_cases e : b' = b <;> simp [e]
@[simp] theorem sitAt_upd_cells {b b' : Nat} {cs : List AV} : sitAt (h.upd b (.cells cs)) (.ptr b' 0) = if b' = b then none else sitAt h (.ptr b' 0) := by
  unfold sitAt; by_cases e : b' = b <;> simp [e]
@[simp] theorem sitAt_upd_map {b b' : Nat} {sh : KShape} {es : List (AV × AV)} : sitAt (h.upd b (.map sh es)) (.ptr b' 0) = if b' = b then none else sitAt h (.ptr b' 0) := by
  unfold sitAt; by_cases e : b' = b <;> simp [e]
theorem sitAt_eq {b : Nat} {s : List UInt8} {p : Nat} (e : h b = some (.sit s p)) : sitAt h (.ptr b 0) = some (b, s, p) := by simp [sitAt, e]
@[simp] theorem step_next {it : Operand} : opStep P { dst := d, op := .next it true, type := ty, pos := pos, after := af, guard := g } K t h = onSome (sitAt h (evalA t it)) fun q =>
    (q.2.2 < q.2.1.length → K (t.putO d (.tup [.bool true, .int .i64 q.2.2, .int .i32 (Utf8.decode ⟨q.2.1.toArray⟩ q.2.2).1])) (h.upd q.1 (.sit q.2.1 (q.2.2 + (Utf8.decode ⟨q.2.1.toArray⟩ q.2.2).2)))) ∧
    (¬ q.2.2 < q.2.1.length → K (t.putO d (.tup [.bool false])) h) := by
  simp only [opStep, opRes, effStep, sitAt]
  cases evalA t it <;> first | rfl | skip
  rename_i b off
  cases off with
  | succ n => rfl
  | zero =>
    simp only
    cases h b with
    | none => rfl
    | some c => cases c <;> rfl
def appendA (h : AHeap) (es : Nat) (s : AV) (k : Nat) (xs : List AV) (K : AV → AHeap → Prop) : Prop := match s with
  | .nilsl => (k = 0 → K .nilsl h) ∧ (k ≠ 0 → k < 2 ^ 30 ∧ newA h (.cells xs) fun b h' => K (.osl b 0 k es) h')
  | .osl b 0 n es' => es' = es ∧ n + k < 2 ^ 30 ∧ onSome (cellsAt h b 0) fun cs => cs.length = n * es ∧ newA (h.del b) (.cells (cs ++ xs)) fun b' h' => K (.osl b' 0 (n + k) es) h'
  | .osl b (off + 1) n es' => es' = es ∧ n + k < 2 ^ 30 ∧ onSome (cellsAt h b 0) fun cs => cs.length = off + 1 + n * es ∧ ∀ b' (pre : List AV), (h.del b) b' = none → K (.osl b' pre.length (n + k) es) ((h.del b).upd b' (.cells (pre ++ (cs.drop (off + 1) ++ xs))))
  | _ => False
theorem appendA_congr {es k k' : Nat} {s s' : AV} {xs xs' : List AV} {K : AV → AHeap → Prop} (eh : keep h = h') (el : s = s') (ek : k = k') (ec : xs = xs') : appendA h es s k xs K = appendA h' es s' k' xs' K := by rw [← eh, el, ek, ec, keep_eq]
@[simp] theorem appendA_nilsl {es k : Nat} {xs : List AV} {K : AV → AHeap → Prop} : appendA h es .nilsl k xs K = ((k = 0 → K .nilsl h) ∧ (k ≠ 0 → k < 2 ^ 30 ∧ newA h (.cells xs) fun b h' => K (.osl b 0 k es) h')) := nrfl rfl
@[simp] theorem appendA_osl {es k b n es' : Nat} {xs : List AV} {K : AV → AHeap → Prop} : appendA h es (.osl b 0 n es') k xs K = (es' = es ∧ n + k < 2 ^ 30 ∧ onSome (cellsAt h b 0) fun cs => cs.length = n * es ∧ newA (h.del b) (.cells (cs ++ xs)) fun b' h' => K (.osl b' 0 (n + k) es) h') := nrfl rfl
@[simp] theorem step_append {s x : Operand} {ts tx : TypeId} : opStep P { dst := d, op := .call { callee := .builtin .append, args := #[s, x], argTypes := #[ts, tx] }, type := ty, pos := pos, after := af, guard := g } K t h =
    onSome (elemT P ts) fun e => rowT P tx = true ∧ onSome (appXs h e.2.1 (evalA t x)) fun q => appendA h e.2.1 (evalA t s) q.1 q.2 fun r h' => K (t.putO d r) h' := by
  simp only [opStep, opRes, effStep]
  cases elemT P ts with
  | none => rfl
  | some e =>
    obtain ⟨e0, es, by_, z⟩ := e
    simp only [onSome_some]
    cases appXs h es (evalA t x) with
    | none => rfl
    | some q =>
      obtain ⟨k, xs⟩ := q
      simp only [onSome_some, appendA]
      congr 1
      cases evalA t s <;> first | rfl | skip
      rename_i b off n es'
      cases off with
      | succ n =>
        simp only [cellsAt]
        cases h b with
        | none => rfl
        | some c => cases c <;> rfl
      | zero =>
        simp only [cellsAt]
        cases h b with
        | none => rfl
        | some c => cases c <;> rfl
/-- An append, whatever the offset. -/
theorem appendA_any {es k b off n : Nat} {xs cs : List AV} {K : AV → AHeap → Prop} (hsm : n + k < 2 ^ 30) (hb : h b = some (.cells cs)) (hl : cs.length = off + n * es)
    (hK : ∀ b' (pre : List AV), (h.del b) b' = none → K (.osl b' pre.length (n + k) es) ((h.del b).upd b' (.cells (pre ++ (cs.drop off ++ xs))))) : appendA h es (.osl b off n es) k xs K := by
  cases off with
  | zero =>
    refine ⟨rfl, hsm, ?_⟩
    simp only [cellsAt, hb]
    refine ⟨by simpa using hl, fun b' hb' => ?_⟩
    have := hK b' [] hb'
    simpa using this
  | succ off =>
    refine ⟨rfl, hsm, ?_⟩
    simp only [cellsAt, hb]
    exact ⟨by simpa using hl, fun b' pre hb' => by simpa using hK b' pre hb'⟩
@[simp] theorem appXs_nil {es : Nat} : appXs h es .nilsl = some (0, []) := nrfl rfl
@[simp] theorem appXs_sl {es n : Nat} {cells : List AV} : appXs h es (.sl n cells) = if cells.length = n * es then some (n, cells) else none := nrfl rfl
@[simp] theorem appXs_str {es : Nat} {s : List UInt8} : appXs h es (.str s) = if es = 1 then some (s.length, s.map fun b => .int .u8 b.toNat) else none := nrfl rfl
@[simp] theorem appXs_osl {es b off n es' : Nat} : appXs h es (.osl b off n es') = (cellsAt h b off).bind fun cs => if es' = es ∧ n * es ≤ cs.length then some (n, cs.take (n * es)) else none := by
  simp only [appXs, cellsAt]
  cases h b with
  | none => rfl
  | some c =>
    cases c <;> rfl
def copyA (h : AHeap) (es : Nat) (dv : AV) (k : Nat) (xs : List AV) (K : AV → AHeap → Prop) : Prop := match dv with
  | .osl b off n es' => es' = es ∧ onSome (cellsAt h b 0) fun cs => off + n * es ≤ cs.length ∧ K (.int .i64 (min k n)) (h.upd b (.cells (splice cs off (xs.take (min k n * es)))))
  | _ => False
theorem copyA_congr {es k k' : Nat} {s s' : AV} {xs xs' : List AV} {K : AV → AHeap → Prop} (eh : keep h = h') (el : s = s') (ek : k = k') (ec : xs = xs') : copyA h es s k xs K = copyA h' es s' k' xs' K := by rw [← eh, el, ek, ec, keep_eq]
@[simp] theorem copyA_osl {es b off n es' k : Nat} {xs : List AV} {K : AV → AHeap → Prop} : copyA h es (.osl b off n es') k xs K = (es' = es ∧ onSome (cellsAt h b 0) fun cs => off + n * es ≤ cs.length ∧ K (.int .i64 (min k n)) (h.upd b (.cells (splice cs off (xs.take (min k n * es)))))) := nrfl rfl
@[simp] theorem step_copy {s x : Operand} {ts tx : TypeId} : opStep P { dst := d, op := .call { callee := .builtin .copy, args := #[s, x], argTypes := #[ts, tx] }, type := ty, pos := pos, after := af, guard := g } K t h =
    onSome (elemT P ts) fun e => onSome (appXs h e.2.1 (evalA t x)) fun q => copyA h e.2.1 (evalA t s) q.1 q.2 fun r h' => K (t.putO d r) h' := by
  simp only [opStep, opRes, effStep]
  cases elemT P ts with
  | none => rfl
  | some e =>
    obtain ⟨e0, es, by_, z⟩ := e
    simp only [onSome_some]
    cases appXs h es (evalA t x) with
    | none => rfl
    | some q =>
      obtain ⟨k, xs⟩ := q
      simp only [onSome_some, copyA]
      cases evalA t s <;> first | rfl | skip
      rename_i b off n es'
      simp only [cellsAt]
      cases h b with
      | none => rfl
      | some c => cases c <;> rfl
@[simp] theorem step_min {x : Operand} {xs : List Operand} {ats : Array TypeId} : opStep P { dst := d, op := .call { callee := .builtin .min, args := (x :: xs).toArray, argTypes := ats }, type := ty, pos := pos, after := af, guard := g } K t h =
    onSome (minA false (evalA t x) (xs.map (evalA t))) fun v => K (t.putO d v) h := by
  simp only [opStep, opRes, effStep]; cases minA false (evalA t x) (xs.map (evalA t)) <;> rfl
@[simp] theorem step_max {x : Operand} {xs : List Operand} {ats : Array TypeId} : opStep P { dst := d, op := .call { callee := .builtin .max, args := (x :: xs).toArray, argTypes := ats }, type := ty, pos := pos, after := af, guard := g } K t h =
    onSome (minA true (evalA t x) (xs.map (evalA t))) fun v => K (t.putO d v) h := by
  simp only [opStep, opRes, effStep]; cases minA true (evalA t x) (xs.map (evalA t)) <;> rfl
end
@[simp] theorem minA_nil {mx : Bool} {a : AV} : minA mx a [] = some a := by cases a <;> rfl
@[simp] theorem minA_cons {mx : Bool} {k k' : IntKind} {x y : Int} {rest : List AV} : minA mx (.int k x) (.int k' y :: rest) = minA mx (.int k (if (if mx then x < y else y < x) then y else x)) rest := nrfl rfl
end
end Go.AH

end

section
/-
  Contracts of functions that leave all memory alone; the frame; what is only lent.
-/
namespace Go.AH
open Go

/-- The call hands back r, and of what is owned nothing turns. -/
def Pure (P : Program) (f : FuncId) (args : List AV) (r : AV) : Prop := ∀ h, ACalls P f args h fun r' h' => r' = r ∧ h' = h
def PureV (P : Program) (fv : AV) (args : List AV) (r : AV) : Prop := ∀ h, ACallV P fv args h fun r' h' => r' = r ∧ h' = h

section
variable {P : Program} {h h2 hv : AHeap} {f : FuncId} {args : List AV} {R : AV → AHeap → Prop}

theorem un_cases {h h2 hf : AHeap} (D : Disj (h.un h2) hf) (D2 : Disj h h2) : Disj h (h2.un hf) ∧ (h.un h2).un hf = h.un (h2.un hf) :=
  ⟨Disj.un_right D2 D.of_un_left, AHeap.un_assoc⟩

/-- What a call does not own lies as it lay. -/
theorem ACalls.frame (c : ACalls P f args h R) (D2 : Disj h h2) : ACalls P f args (h.un h2) fun r h' => ∃ h1, h' = h1.un h2 ∧ Disj h1 h2 ∧ R r h1 := by
  refine ⟨c.1, fun hf w vs D Rl rs => ?_⟩
  obtain ⟨D3, e⟩ := un_cases D D2
  rw [e] at Rl rs
  refine CallsIn.mono (c.2 (h2.un hf) w vs D3 Rl rs) ?_
  rintro en w' ⟨v, r, h1, rfl, q, D1, R1, rv, s⟩
  have Da : Disj h1 h2 := fun b => by
    rcases D1 b with e | e
    · exact .inl e
    · exact .inr (AHeap.un_eq_none.1 e).1
  have Db : Disj h1 hf := fun b => by
    rcases D1 b with e | e
    · exact .inl e
    · exact .inr (AHeap.un_eq_none.1 e).2
  have e1 : (h1.un h2).un hf = h1.un (h2.un hf) := AHeap.un_assoc
  refine ⟨v, r, h1.un h2, rfl, ⟨h1, rfl, Da, q⟩, Disj.un_left Db D.of_un_right, by rw [e1]; exact R1, by rw [e1]; exact rv, ⟨by rw [e, e1]; exact s.ext, fun b hb => s.fr b fun hn => hb (AHeap.un_eq_none.1 hn).2⟩⟩

theorem pure_of {r : AV} (c : ACalls P f args AHeap.empty fun r' _ => r' = r) : Pure P f args r := by
  intro h
  have c1 : ACalls P f args AHeap.empty fun r' h' => r' = r ∧ h' = AHeap.empty := by
    refine ⟨c.1, fun hf w vs D Rl rs => CallsIn.mono (c.2 hf w vs D Rl rs) ?_⟩
    rintro en w' ⟨v, r', h1, rfl, q, D1, R1, rv, s⟩
    have sb := SubH.empty 0 h1
    exact ⟨v, r', AHeap.empty, rfl, ⟨q, rfl⟩, sb.disj D1, sb.rel R1 D1, rv.ext (sb.ext D1), s.trans (sb.stp D1)⟩
  have := ACalls.frame c1 (h2 := h) Disj.empty
  rw [AHeap.empty_un] at this
  refine ACalls.mono this ?_
  rintro r' h' ⟨h1, e, _, e2, e3⟩
  subst e3
  exact ⟨e2, e⟩

/-- What hangs on no memory. -/
def AV.bare : AV → Bool
  | .undef | .bool _ | .int _ _ | .str _ | .nilsl | .nilptr | .nilmap | .nilfn | .nilif => true
  | _ => false
def AV.bare1 : AV → Bool
  | .tup vs => vs.all AV.bare
  | .agg vs => vs.all AV.bare && vs.all AV.one
  | a => a.bare

theorem Rep.bare {w w' : World} {g g' : AHeap} {v : Value} {a : AV} (r : Rep w g v a) (hb : a.bare = true) : Rep w' g' v a := by
  cases r <;> first
    | exact .undef _ | exact .bool _ | exact .int _ _ | exact .str _ | exact .nilsl | exact .nilptr | exact .nilmap | exact .nilfn | exact .nilif
    | simp [AV.bare] at hb

theorem Rep.bare1 {w w' : World} {g g' : AHeap} {v : Value} {a : AV} (r : Rep w g v a) (hb : a.bare1 = true) : Rep w' g' v a := by
  cases a <;> first
    | exact r.bare hb
    | skip
  · rename_i cells
    obtain ⟨vs, rfl, h1, h2, h3⟩ := r.inv_agg
    simp only [AV.bare1, Bool.and_eq_true, List.all_eq_true] at hb
    exact .agg h1 h2 fun i hi hj => (h3.2 i hi hj).bare (hb.1 _ (List.getElem_mem hj))
  · rename_i cells
    obtain ⟨vs, rfl, h3⟩ := r.inv_tup
    simp only [AV.bare1, List.all_eq_true] at hb
    exact .tup h3.1 fun i hi hj => (h3.2 i hi hj).bare (hb _ (List.getElem_mem hj))

/-- Owned blocks are lent to a call that only reads, and hands back what hangs on no memory. -/
theorem acalls_lend {k : Nat} {r : AV} (hr : r.bare1 = true) (c : Pure P f (args.map (frzF k h AHeap.empty)) r) : ACalls P f args h fun r' h' => r' = r ∧ h' = h := by
  have c0 := c AHeap.empty
  refine ⟨c0.1, fun hf w vs D Rl rs => ?_⟩
  have rs' : RepL w hf vs (args.map (frzF k h AHeap.empty)) := by
    have := rs.conv (g' := AHeap.empty.un hf) (frzF k h AHeap.empty) (fun v a q => frz_sound Rl D (fun _ _ => rfl) k v a q)
    simpa using this
  have Rf : Rel w hf := by
    have := (SubH.empty k h).rel Rl D
    simpa using this
  refine CallsIn.mono (c0.2 hf w vs Disj.empty (by simpa using Rf) (by simpa using rs')) ?_
  rintro en w' ⟨v, r', h1, rfl, ⟨rfl, rfl⟩, D1, R1, rv, s⟩
  simp only [AHeap.empty_un] at R1 rv
  have hext := s.ext
  simp only [AHeap.empty_un] at hext
  -- every block that was there lies as it lay
  have hall : ∀ b, b < w.heap.size → w'.heap[b]? = w.heap[b]? := fun b hb => by
    cases hc : hf b with
    | none => exact (hext.keep b hb hc).2
    | some c => exact s.fr b (by rw [hc]; simp)
  have x : Ext w (h.un hf) w' (h.un hf) := ⟨hext.size, fun b hb hn => ⟨hn, hall b hb⟩, hext.shape, hext.os, hext.tape, hext.output⟩
  refine ⟨v, r', h, rfl, ⟨rfl, rfl⟩, D, ?_, rv.bare1 hr, ⟨x, s.fr⟩⟩
  exact Rl.step x fun b c hc => .inl ⟨hc, hall b (Rl.lt hc)⟩

/-- A call of a contract that turns nothing. -/
theorem Pure.use {r : AV} (c : Pure P f args r) (k : R r h) : ACalls P f args h R := ACalls.mono (c h) fun r' h' ⟨e1, e2⟩ => by subst e1; subst e2; exact k
theorem Pure.lend {k : Nat} {r : AV} (hr : r.bare1 = true) (c : Pure P f (args.map (frzF k h AHeap.empty)) r) (q : R r h) : ACalls P f args h R :=
  ACalls.mono (acalls_lend hr c) fun r' h' ⟨e1, e2⟩ => by subst e1; subst e2; exact q

/-! ### loops -/
variable {body : (Exit → AF → AHeap → Prop) → AF → AHeap → Prop} {Q : Exit → AF → AHeap → Prop} {t : AF}
/-- A loop with a ghost. -/
theorem loop_g {γ : Type} (I : γ → AF → AHeap → Prop) (μ : γ → Nat) (g0 : γ) (h0 : turnA (I g0) t h)
    (round : ∀ g t h, I g t h → body (thenA (turnA fun t' h' => ∃ g', μ g' < μ g ∧ I g' t' h') (fun e => turnA (Q e))) t h)
    (mono : ∀ (Q Q' : Exit → AF → AHeap → Prop) t h, (∀ e t h, Q e t h → Q' e t h) → body Q t h → body Q' t h) : awpLoop body Q t h := by
  refine ⟨fun n t h => ∃ g, μ g = n ∧ I g t h, μ g0, ?_, ?_⟩
  · obtain ⟨k, h', t', a, b, c⟩ := h0
    exact ⟨k, h', t', a, b, g0, rfl, c⟩
  · rintro n t h ⟨g, rfl, i⟩
    refine mono _ _ t h ?_ (round g t h i)
    intro e t h q
    cases e <;> first | exact q | skip
    obtain ⟨k, h', t', a, b, g', hlt, i'⟩ := q
    exact ⟨k, h', t', a, b, μ g', hlt, g', rfl, i'⟩
end

section
variable {P : Program} {t : AF} {h : AHeap} {ro : Option Nat} {N : Nat}
theorem opStep_mono {o : Oper} {K K' : AF → AHeap → Prop} (e : opStep P o K t h) (hk : ∀ t h, K t h → K' t h) : opStep P o K' t h := opRes_mono e fun _ _ q => hk _ _ q

theorem awpOps_mono {ops : Array Oper} {K K' : AF → AHeap → Prop} (hk : ∀ t h, K t h → K' t h) : ∀ (os : List Oper) (t : AF) (h : AHeap), awpOps P ops K os t h → awpOps P ops K' os t h
  | [], t, h, e => hk t h e
  | o :: os, t, h, e => by
    simp only [awpOps] at e ⊢
    split at e
    · next hw => exact opStep_mono e fun t h => awpOps_mono hk os t h
    · next hw => exact awpOps_mono hk os _ h e
    · exact e.elim

theorem turnA_mono {K K' : AF → AHeap → Prop} (e : turnA K t h) (hk : ∀ t h, K t h → K' t h) : turnA K' t h := by
  obtain ⟨k, h', t', a, b, c⟩ := e
  exact ⟨k, h', t', a, b, hk _ _ c⟩

theorem awp_mono : ∀ (c : Code) (Q Q' : Exit → AF → AHeap → Prop) (t : AF) (h : AHeap), (∀ e t h, Q e t h → Q' e t h) → awp P ro N c Q t h → awp P ro N c Q' t h := by
  intro c
  induction c with
  | skip => intro Q Q' t h hq e; exact hq _ _ _ e
  | label l => intro Q Q' t h hq e; exact hq _ _ _ e
  | exit id => intro Q Q' t h hq e; exact hq _ _ _ e
  | ret => intro Q Q' t h hq e; exact hq _ _ _ e
  | goto l => intro Q Q' t h hq e; exact e.elim
  | refuse why => intro Q Q' t h hq e; exact e.elim
  | rangeFunc f ps as b _ _ => intro Q Q' t h hq e; exact AWP.mono e hq
  | scope c _ => intro Q Q' t h hq e; exact AWP.mono e hq
  | region id ops draw =>
    intro Q Q' t h hq e
    cases draw with
    | true => exact AWP.mono e hq
    | false => exact awpOps_mono (hq _) _ _ _ e
  | seq x y ihx ihy =>
    intro Q Q' t h hq e
    refine ihx _ _ t h ?_ e
    intro ex t h q
    cases ex <;> first | exact ihy _ _ t h hq q | exact hq _ _ _ q
  | cond c x y ihx ihy =>
    intro Q Q' t h hq e
    simp only [awp, condA] at e ⊢
    split at e
    · exact ⟨fun hb => ihx _ _ t h hq (e.1 hb), fun hb => ihy _ _ t h hq (e.2 hb)⟩
    · exact e.elim
  | block id c ih =>
    intro Q Q' t h hq e
    refine ih _ _ t h ?_ e
    intro ex t h q
    cases ex <;> first | exact hq _ _ _ q | skip
    simp only [blockA] at q ⊢
    split
    · next he => rw [if_pos he] at q; exact hq _ _ _ q
    · next he => rw [if_neg he] at q; exact hq _ _ _ q
  | loop c ih =>
    intro Q Q' t h hq e
    obtain ⟨I, n, h0, hr⟩ := e
    refine ⟨I, n, h0, fun n t h i => ih _ _ t h ?_ (hr n t h i)⟩
    intro ex t h q
    cases ex <;> first | exact q | exact turnA_mono q (hq _)

/-- A loop of the calculus: an invariant over a ghost, a number that every round lowers. -/
theorem awp_loop_g {γ : Type} {c : Code} {Q : Exit → AF → AHeap → Prop} (I : γ → AF → AHeap → Prop) (μ : γ → Nat) (g0 : γ) (h0 : turnA (I g0) t h)
    (round : ∀ g t h, I g t h → awp P ro N c (thenA (turnA fun t' h' => ∃ g', μ g' < μ g ∧ I g' t' h') Q) t h) : awpLoop (awp P ro N c) Q t h :=
  loop_g I μ g0 h0 (fun g t h i => awp_mono c _ _ t h (fun e t h q => by cases e <;> first | exact q | exact turnA_self q) (round g t h i)) fun Q Q' t h => awp_mono c Q Q' t h
/-- The same; where the loop is left, blocks may be given up. -/
theorem awp_loop_t {γ : Type} {c : Code} {Q : Exit → AF → AHeap → Prop} (I : γ → AF → AHeap → Prop) (μ : γ → Nat) (g0 : γ) (h0 : turnA (I g0) t h)
    (round : ∀ g t h, I g t h → awp P ro N c (thenA (turnA fun t' h' => ∃ g', μ g' < μ g ∧ I g' t' h') (fun e => turnA (Q e))) t h) : awpLoop (awp P ro N c) Q t h :=
  loop_g I μ g0 h0 round fun Q Q' t h => awp_mono c Q Q' t h
end
end Go.AH

end

section
/-
  Values as rewrite rules.
-/
namespace Go.AH
open Go

@[simp] theorem loadC_true (s : Nat) (cells : List AV) : loadC true s cells = if s ≤ cells.length then some (.agg (cells.take s)) else none := nrfl rfl
@[simp] theorem loadC_false (s : Nat) (cells : List AV) : loadC false s cells = cells[0]? := by simp [loadC, List.head?_eq_getElem?]
@[simp] theorem fit_undef  : AV.undef.fit = false := nrfl rfl
@[simp] theorem one_undef  : AV.undef.one = false := nrfl rfl
@[simp] theorem cells_undef  : AV.undef.cells = [AV.undef] := nrfl rfl
@[simp] theorem fit_bool (b : Bool) : (AV.bool b).fit = true := nrfl rfl
@[simp] theorem one_bool (b : Bool) : (AV.bool b).one = true := nrfl rfl
@[simp] theorem cells_bool (b : Bool) : (AV.bool b).cells = [AV.bool b] := nrfl rfl
@[simp] theorem fit_int (k : IntKind) (n : Int) : (AV.int k n).fit = true := nrfl rfl
@[simp] theorem one_int (k : IntKind) (n : Int) : (AV.int k n).one = true := nrfl rfl
@[simp] theorem cells_int (k : IntKind) (n : Int) : (AV.int k n).cells = [AV.int k n] := nrfl rfl
@[simp] theorem fit_str (s : List UInt8) : (AV.str s).fit = true := nrfl rfl
@[simp] theorem one_str (s : List UInt8) : (AV.str s).one = true := nrfl rfl
@[simp] theorem cells_str (s : List UInt8) : (AV.str s).cells = [AV.str s] := nrfl rfl
@[simp] theorem fit_nilsl  : AV.nilsl.fit = true := nrfl rfl
@[simp] theorem one_nilsl  : AV.nilsl.one = true := nrfl rfl
@[simp] theorem cells_nilsl  : AV.nilsl.cells = [AV.nilsl] := nrfl rfl
@[simp] theorem fit_sl (n : Nat) (cs : List AV) : (AV.sl n cs).fit = true := nrfl rfl
@[simp] theorem one_sl (n : Nat) (cs : List AV) : (AV.sl n cs).one = true := nrfl rfl
@[simp] theorem cells_sl (n : Nat) (cs : List AV) : (AV.sl n cs).cells = [AV.sl n cs] := nrfl rfl
@[simp] theorem fit_osl (b off n es : Nat) : (AV.osl b off n es).fit = true := nrfl rfl
@[simp] theorem one_osl (b off n es : Nat) : (AV.osl b off n es).one = true := nrfl rfl
@[simp] theorem cells_osl (b off n es : Nat) : (AV.osl b off n es).cells = [AV.osl b off n es] := nrfl rfl
@[simp] theorem fit_nilptr  : AV.nilptr.fit = true := nrfl rfl
@[simp] theorem one_nilptr  : AV.nilptr.one = true := nrfl rfl
@[simp] theorem cells_nilptr  : AV.nilptr.cells = [AV.nilptr] := nrfl rfl
@[simp] theorem fit_ptr (b off : Nat) : (AV.ptr b off).fit = true := nrfl rfl
@[simp] theorem one_ptr (b off : Nat) : (AV.ptr b off).one = true := nrfl rfl
@[simp] theorem cells_ptr (b off : Nat) : (AV.ptr b off).cells = [AV.ptr b off] := nrfl rfl
@[simp] theorem fit_fptr (cs : List AV) : (AV.fptr cs).fit = true := nrfl rfl
@[simp] theorem one_fptr (cs : List AV) : (AV.fptr cs).one = true := nrfl rfl
@[simp] theorem cells_fptr (cs : List AV) : (AV.fptr cs).cells = [AV.fptr cs] := nrfl rfl
@[simp] theorem fit_nilmap  : AV.nilmap.fit = true := nrfl rfl
@[simp] theorem one_nilmap  : AV.nilmap.one = true := nrfl rfl
@[simp] theorem cells_nilmap  : AV.nilmap.cells = [AV.nilmap] := nrfl rfl
@[simp] theorem fit_map (b : Nat) : (AV.map b).fit = true := nrfl rfl
@[simp] theorem one_map (b : Nat) : (AV.map b).one = true := nrfl rfl
@[simp] theorem cells_map (b : Nat) : (AV.map b).cells = [AV.map b] := nrfl rfl
@[simp] theorem fit_fn (f : Fn) (fi ca : List AV) : (AV.fn f fi ca).fit = true := nrfl rfl
@[simp] theorem one_fn (f : Fn) (fi ca : List AV) : (AV.fn f fi ca).one = true := nrfl rfl
@[simp] theorem cells_fn (f : Fn) (fi ca : List AV) : (AV.fn f fi ca).cells = [AV.fn f fi ca] := nrfl rfl
@[simp] theorem fit_nilfn  : AV.nilfn.fit = true := nrfl rfl
@[simp] theorem one_nilfn  : AV.nilfn.one = true := nrfl rfl
@[simp] theorem cells_nilfn  : AV.nilfn.cells = [AV.nilfn] := nrfl rfl
@[simp] theorem fit_nilif  : AV.nilif.fit = true := nrfl rfl
@[simp] theorem one_nilif  : AV.nilif.one = true := nrfl rfl
@[simp] theorem cells_nilif  : AV.nilif.cells = [AV.nilif] := nrfl rfl
@[simp] theorem fit_iface (t : TypeId) (v : AV) : (AV.iface t v).fit = true := nrfl rfl
@[simp] theorem one_iface (t : TypeId) (v : AV) : (AV.iface t v).one = true := nrfl rfl
@[simp] theorem cells_iface (t : TypeId) (v : AV) : (AV.iface t v).cells = [AV.iface t v] := nrfl rfl
@[simp] theorem fit_agg (cs : List AV) : (AV.agg cs).fit = true := nrfl rfl
@[simp] theorem one_agg (cs : List AV) : (AV.agg cs).one = false := nrfl rfl
@[simp] theorem cells_agg (cs : List AV) : (AV.agg cs).cells = cs := nrfl rfl
@[simp] theorem fit_tup (vs : List AV) : (AV.tup vs).fit = false := nrfl rfl
@[simp] theorem one_tup (vs : List AV) : (AV.tup vs).one = false := nrfl rfl
@[simp] theorem cells_tup (vs : List AV) : (AV.tup vs).cells = [AV.tup vs] := nrfl rfl
@[simp] theorem kkOf_bool (b : Bool) : kkOf (.bool b) = some .b := nrfl rfl
@[simp] theorem kkOf_int (k : IntKind) (n : Int) : kkOf (.int k n) = some (.i k) := nrfl rfl
@[simp] theorem kkOf_str (s : List UInt8) : kkOf (.str s) = some .s := nrfl rfl
@[simp] theorem ok_one (k : KK) (a : AV) : KShape.ok (.one k) a = (kkOf a == some k) := nrfl rfl
@[simp] theorem ok_many (ks : List KK) (cs : List AV) : KShape.ok (.many ks) (.agg cs) = (cs.map kkOf == ks.map some) := nrfl rfl
section
variable {P : Program} {t : TypeId} {h : AHeap}
theorem loadA_eq {a : Bool} {s : Nat} {cells : List AV} (e1 : aggT P t = some a) (e2 : szT P t = some s) : loadA P t cells = loadC a s cells := by simp [loadA, e1, e2]
attribute [simp] loadA partA cmpA intA strA unA fieldAddrA fieldA convA ifaceA lenA indexAddrA indexA sliceA eqlA buildA zcells_one fillA byteOf bytesOf boundA rangeA sliceB arrSliceA_fptr arrSliceA_ptr
@[simp] theorem binA_shl {k k' : IntKind} {a b : Int} : binA P .shl t (.int k a) (.int k' b) = if b < 0 then none else some (.int k (k.wrap (a * 2 ^ min b.toNat k.bits))) := nrfl rfl
@[simp] theorem binA_shr {k k' : IntKind} {a b : Int} : binA P .shr t (.int k a) (.int k' b) = if b < 0 then none else some (.int k (a.fdiv (2 ^ min b.toNat k.bits))) := nrfl rfl
theorem binA_int {op : BinOp} {k : IntKind} {a b : Int} (h1 : op ≠ .shl) (h2 : op ≠ .shr) : binA P op t (.int k a) (.int k b) = intA op k a b := by
  cases op <;> simp_all [binA]
@[simp] theorem binA_add {k : IntKind} {a b : Int} : binA P .add t (.int k a) (.int k b) = some (.int k (k.wrap (a + b))) := by simp [binA]
@[simp] theorem binA_sub {k : IntKind} {a b : Int} : binA P .sub t (.int k a) (.int k b) = some (.int k (k.wrap (a - b))) := by simp [binA]
@[simp] theorem binA_mul {k : IntKind} {a b : Int} : binA P .mul t (.int k a) (.int k b) = some (.int k (k.wrap (a * b))) := by simp [binA]
@[simp] theorem binA_quo {k : IntKind} {a b : Int} : binA P .quo t (.int k a) (.int k b) = if b = 0 then none else some (.int k (k.wrap (a.tdiv b))) := by simp [binA]
@[simp] theorem binA_rem {k : IntKind} {a b : Int} : binA P .rem t (.int k a) (.int k b) = if b = 0 then none else some (.int k (a.tmod b)) := by simp [binA]
@[simp] theorem binA_and {k : IntKind} {a b : Int} : binA P .and t (.int k a) (.int k b) = some (.int k (k.wrap (BitVec.ofInt k.bits a &&& BitVec.ofInt k.bits b).toNat)) := by simp [binA]
@[simp] theorem binA_or {k : IntKind} {a b : Int} : binA P .or t (.int k a) (.int k b) = some (.int k (k.wrap (BitVec.ofInt k.bits a ||| BitVec.ofInt k.bits b).toNat)) := by simp [binA]
@[simp] theorem binA_xor {k : IntKind} {a b : Int} : binA P .xor t (.int k a) (.int k b) = some (.int k (k.wrap (BitVec.ofInt k.bits a ^^^ BitVec.ofInt k.bits b).toNat)) := by simp [binA]
@[simp] theorem binA_andNot {k : IntKind} {a b : Int} : binA P .andNot t (.int k a) (.int k b) = some (.int k (k.wrap (BitVec.ofInt k.bits a &&& ~~~BitVec.ofInt k.bits b).toNat)) := by simp [binA]
@[simp] theorem binA_eql {k : IntKind} {a b : Int} : binA P .eql t (.int k a) (.int k b) = some (.bool (decide (a = b))) := by simp [binA]
@[simp] theorem binA_neq {k : IntKind} {a b : Int} : binA P .neq t (.int k a) (.int k b) = some (.bool (!decide (a = b))) := by simp [binA]
@[simp] theorem binA_lss {k : IntKind} {a b : Int} : binA P .lss t (.int k a) (.int k b) = some (.bool (decide (a < b))) := by simp [binA]
@[simp] theorem binA_leq {k : IntKind} {a b : Int} : binA P .leq t (.int k a) (.int k b) = some (.bool (decide (a ≤ b))) := by simp [binA]
@[simp] theorem binA_gtr {k : IntKind} {a b : Int} : binA P .gtr t (.int k a) (.int k b) = some (.bool (decide (b < a))) := by simp [binA]
@[simp] theorem binA_geq {k : IntKind} {a b : Int} : binA P .geq t (.int k a) (.int k b) = some (.bool (decide (b ≤ a))) := by simp [binA]
@[simp] theorem binA_str {op : BinOp} {a b : List UInt8} : binA P op t (.str a) (.str b) = strA op a b := by cases op <;> rfl
@[simp] theorem binA_eqb {a b : Bool} : binA P .eql t (.bool a) (.bool b) = (eqlA P t (.bool a) (.bool b)).map fun b => .bool b := nrfl rfl
@[simp] theorem binA_neb {a b : Bool} : binA P .neq t (.bool a) (.bool b) = (eqlA P t (.bool a) (.bool b)).map fun b => .bool (!b) := nrfl rfl
@[simp] theorem binA_agg {op : BinOp} {as bs : List AV} : binA P op t (.agg as) (.agg bs) = aggA P op t as bs := by cases op <;> rfl
@[simp] theorem intsEq_nil {k : IntKind} : intsEq k [] [] = some true := nrfl rfl
@[simp] theorem intsEq_cons {k k1 k2 : IntKind} {a b : Int} {as bs : List AV} : intsEq k (.int k1 a :: as) (.int k2 b :: bs) = if k1 = k ∧ k2 = k then (intsEq k as bs).map fun r => decide (a = b) && r else none := nrfl rfl
attribute [simp] aggA arrEqT
theorem splice_one {l : List AV} {i : Nat} {v : AV} (h : i < l.length) : splice l i [v] = l.set i v := by
  simp only [splice, List.length_singleton, List.append_assoc, List.singleton_append]
  rw [List.set_eq_take_append_cons_drop, if_pos h]
theorem splice_all {l vs : List AV} (h : vs.length = l.length) : splice l 0 vs = vs := by
  simp [splice, h]
@[simp] theorem splice_box {x v : AV} : splice [x] 0 [v] = [v] := by simp [splice]
attribute [simp] splice_one splice_all
@[simp] theorem binA_eq_nilsl {x : AV} : binA P .eql t x .nilsl = (eqlA P t x .nilsl).map fun b => .bool b := by cases x <;> rfl
@[simp] theorem binA_ne_nilsl {x : AV} : binA P .neq t x .nilsl = (eqlA P t x .nilsl).map fun b => .bool (!b) := by cases x <;> rfl
@[simp] theorem binA_eq_nilptr {x : AV} : binA P .eql t x .nilptr = (eqlA P t x .nilptr).map fun b => .bool b := by cases x <;> rfl
@[simp] theorem binA_ne_nilptr {x : AV} : binA P .neq t x .nilptr = (eqlA P t x .nilptr).map fun b => .bool (!b) := by cases x <;> rfl
@[simp] theorem binA_eq_nilmap {x : AV} : binA P .eql t x .nilmap = (eqlA P t x .nilmap).map fun b => .bool b := by cases x <;> rfl
@[simp] theorem binA_ne_nilmap {x : AV} : binA P .neq t x .nilmap = (eqlA P t x .nilmap).map fun b => .bool (!b) := by cases x <;> rfl
@[simp] theorem binA_eq_nilfn {x : AV} : binA P .eql t x .nilfn = (eqlA P t x .nilfn).map fun b => .bool b := by cases x <;> rfl
@[simp] theorem binA_ne_nilfn {x : AV} : binA P .neq t x .nilfn = (eqlA P t x .nilfn).map fun b => .bool (!b) := by cases x <;> rfl
@[simp] theorem binA_eq_nilif {x : AV} : binA P .eql t x .nilif = (eqlA P t x .nilif).map fun b => .bool b := by cases x <;> rfl
@[simp] theorem binA_ne_nilif {x : AV} : binA P .neq t x .nilif = (eqlA P t x .nilif).map fun b => .bool (!b) := by cases x <;> rfl
@[simp] theorem mapGet_nil {k : AV} : mapGet [] k = none := nrfl rfl
end
end Go.AH

end

section
/-
  Regions that draw their order: what is true of one order of evaluation, under checks made once by computation, is true of all.
-/
namespace Go.AH
open Go

inductive Cls where | pur | read | new | oth
  deriving DecidableEq
def clsOf : Op → Cls
  | .move _ | .assign _ | .pick .. | .nilCheck _ | .binOp .. | .unOp .. | .makeInterface .. | .makeFunc .. | .fieldAddr .. | .field .. | .indexAddr .. | .index .. | .extract .. | .build .. => .pur
  | .slice _ _ _ _ none => .read
  | .load .. | .convert .. | .lookup .. => .read
  | .alloc _ | .box .. | .buildSlice .. | .makeSlice .. | .makeMap _ none => .new
  | .call { callee := .builtin .len, .. } | .call { callee := .builtin .min, .. } | .call { callee := .builtin .max, .. } => .read
  | _ => .oth

noncomputable def lookA (P : Program) (t : AF) (h : AHeap) (mt : TypeId) (m k : Operand) (ok : Bool) : Option AV :=
  (mapT P mt).bind fun mm => mm.2.bind fun z => (mapAt h (evalA t m)).bind fun q =>
    if mm.1 = q.2.1 ∧ q.2.1.ok (evalA t k) = true then some (if ok then .tup [(mapGet q.2.2 (evalA t k)).getD z, .bool (mapGet q.2.2 (evalA t k)).isSome] else (mapGet q.2.2 (evalA t k)).getD z) else none
def mmA (mx : Bool) (t : AF) (xs : List Operand) : Option AV := match xs with | x :: rest => minA mx (evalA t x) (rest.map (evalA t)) | [] => none

noncomputable def valA (P : Program) (t : AF) (h : AHeap) (op : Op) : Option AV := match op with
  | .lookup mt m k ok => lookA P t h mt m k ok
  | .call { callee := .builtin .min, args, .. } => mmA false t args.toList
  | .call { callee := .builtin .max, args, .. } => mmA true t args.toList
  | op => pureA P t h op

def allocA (P : Program) (t : AF) : Op → Option (Chunk × (Nat → AV))
  | .alloc e => (zeroT P e).map fun z => (.cells z, fun b => .ptr b 0)
  | .box _ x => if (evalA t x).fit = true then some (.cells (evalA t x).cells, fun b => .ptr b 0) else none
  | .buildSlice ty len parts => (elemT P ty).bind fun e => (fillA (fun i => some (i * e.2.1, e.2.1)) (zcells e.2.2.2 len) (parts.toList.map fun p => (p.1, evalA t p.2))).bind fun cells =>
      if len ≤ 65536 ∧ e.2.1 ≤ 128 then some (.cells cells, fun b => .osl b 0 len e.2.1) else none
  | .makeSlice ty l c => (elemT P ty).bind fun e => match evalA t l, evalA t c with
    | .int _ l, .int _ c => if 0 ≤ l ∧ l ≤ c ∧ c < 2 ^ 30 then some (.cells (zcells e.2.2.2 l.toNat), fun b => .osl b 0 l.toNat e.2.1) else none
    | _, _ => none
  | .makeMap ty none => (mapT P ty).map fun m => (.map m.1 [], fun b => .map b)
  | _ => none

section
variable {P : Program} {t t' : AF} {h h' : AHeap} {o p : Oper} {ops : Array Oper} {K K' : AF → AHeap → Prop}

theorem onSome_bind {α β : Type} (o : Option α) (f : α → Option β) (K : β → Prop) : onSome (o.bind f) K = onSome o fun v => onSome (f v) K := by cases o <;> rfl
theorem onSome_if {α : Type} (c : Prop) [Decidable c] (x : α) (K : α → Prop) : onSome (if c then some x else none) K = (c ∧ K x) := by
  split <;> simp [*]

theorem opRes_val (R : AV → AHeap → Prop) (hc : clsOf o.op = .pur ∨ clsOf o.op = .read) : opRes P o t h R = onSome (valA P t h o.op) fun v => R v h := by
  obtain ⟨d, op, ty, pos, af, g⟩ := o
  simp only at hc ⊢
  unfold clsOf at hc
  split at hc <;> first | rfl | (simp at hc; done) | skip
  all_goals first
    | (simp only [valA]; rfl)
    | skip
  · rename_i mt m k ok
    have := step_lookup (P := P) (K := fun t h => R (t 0) h) (t := t) (h := h) (d := some 0) (ty := ty) (pos := pos) (af := af) (g := g) (mt := mt) (m := m) (k := k) (ok := ok)
    simp only [opStep, AF.putO_some, AF.put_same] at this
    rw [show opRes P { dst := d, op := .lookup mt m k ok, type := ty, pos := pos, after := af, guard := g } t h R = opRes P { dst := some 0, op := .lookup mt m k ok, type := ty, pos := pos, after := af, guard := g } t h R from rfl, this]
    simp only [valA, lookA, onSome_bind, onSome_if, and_assoc]
  · rename_i args ats
    simp only [opRes, effStep, valA, mmA]
    cases args.toList with
    | nil => rfl
    | cons x xs => simp only; cases minA false (evalA t x) (xs.map (evalA t)) <;> rfl
  · rename_i args ats
    simp only [opRes, effStep, valA, mmA]
    cases args.toList with
    | nil => rfl
    | cons x xs => simp only; cases minA true (evalA t x) (xs.map (evalA t)) <;> rfl

theorem opRes_new (R : AV → AHeap → Prop) (hc : clsOf o.op = .new) : opRes P o t h R = onSome (allocA P t o.op) fun q => newA h q.1 fun b h' => R (q.2 b) h' := by
  obtain ⟨d, op, ty, pos, af, g⟩ := o
  simp only at hc ⊢
  unfold clsOf at hc
  split at hc <;> first | (simp at hc; done) | skip
  · rename_i e
    simp only [opRes, effStep, allocA, onSome_map]; cases zeroT P e <;> rfl
  · simp only [opRes, effStep, allocA, onSome_if]; rfl
  · rename_i bt len parts
    simp only [opRes, effStep, allocA, onSome_bind]
    cases elemT P bt with
    | none => rfl
    | some e =>
      obtain ⟨e0, es, by_, z⟩ := e
      simp only [onSome_some, onSome_if]
      cases fillA (fun i => some (i * es, es)) (zcells z len) (parts.toList.map fun p => (p.1, evalA t p.2)) with
      | none => rfl
      | some cells => simp only [onSome_some, and_assoc]; rfl
  · rename_i st l c
    simp only [opRes, effStep, allocA, onSome_bind]
    cases elemT P st with
    | none => rfl
    | some e =>
      obtain ⟨e0, es, by_, z⟩ := e
      simp only [onSome_some]
      cases evalA t l <;> cases evalA t c <;> simp only [onSome_if, onSome_none, and_assoc] <;> rfl
  · rename_i mt
    simp only [opRes, effStep, allocA, onSome_map, mapT]
    cases P.underlying mt with
    | none => rfl
    | some u => cases u <;> first | rfl | (rename_i kt et; simp only [onSome_map]; cases shapeT P kt <;> rfl)

/-! ### An operation looks at its operands alone -/
theorem map_evalA {xs : List Operand} (e : ∀ x ∈ xs, evalA t x = evalA t' x) : xs.map (evalA t) = xs.map (evalA t') := List.map_congr_left e

theorem pureA_congr {op : Op} (e : ∀ x ∈ op.operands, evalA t x = evalA t' x) : pureA P t h op = pureA P t' h op := by
  cases op <;> first | rfl | (simp [Op.operands] at e; simp [pureA, e]; done) | skip
  all_goals simp only [Op.operands] at e
  · rename_i ty parts
    simp only [pureA]
    rw [show (parts.toList.map fun p => (p.1, evalA t p.2)) = parts.toList.map fun p => (p.1, evalA t' p.2) from List.map_congr_left fun p hp => by rw [e p.2 (by simp; exact ⟨p.1, by simpa using hp⟩)]]
  · rename_i f first caps
    simp only [pureA]
    rw [List.map_congr_left fun x hx => e x (by simp at hx ⊢; exact .inl hx), List.map_congr_left fun x hx => e x (by simp at hx ⊢; exact .inr hx)]
  · rename_i ty x lo hi mx
    have e1 := e x (by simp)
    have e2 : lo.map (evalA t) = lo.map (evalA t') := by
      cases lo with
      | none => rfl
      | some y => simp [e y (by simp)]
    have e3 : hi.map (evalA t) = hi.map (evalA t') := by
      cases hi with
      | none => rfl
      | some y => simp [e y (by simp)]
    cases mx with
    | none => simp only [pureA, e1, e2, e3]
    | some m => simp only [pureA, e1, e2, e3, e m (by simp)]
  · rename_i c
    obtain ⟨callee, args, ats⟩ := c
    cases callee <;> first | rfl | skip
    rename_i b
    cases b <;> first | rfl | skip
    have ea : ∀ x ∈ args.toList, evalA t x = evalA t' x := fun x hx => e x (by simpa [Call.operands] using hx)
    simp only [pureA]
    generalize args.toList = l at ea ⊢
    match l, ats.toList with
    | [], _ => rfl
    | [x], [] => rfl
    | [x], [ty] => simp only [ea x (by simp)]
    | [x], _ :: _ :: _ => rfl
    | _ :: _ :: _, _ => rfl

theorem opRes_congr (R : AV → AHeap → Prop) (e : ∀ x ∈ o.op.operands, evalA t x = evalA t' x) : opRes P o t h R = opRes P o t' h R := by
  obtain ⟨d, op, ty, pos, af, g⟩ := o
  simp only at e
  have hp := pureA_congr (P := P) (h := h) e
  cases op <;> first
    | (simp only [opRes, effStep]; rw [hp]; done)
    | (simp [Op.operands] at e; simp [opRes, effStep, e]; done)
    | skip
  all_goals simp only [Op.operands] at e
  · rename_i bt len parts
    simp only [opRes, effStep]
    rw [show (parts.toList.map fun p => (p.1, evalA t p.2)) = parts.toList.map fun p => (p.1, evalA t' p.2) from List.map_congr_left fun p hp => by rw [e p.2 (by simp; exact ⟨p.1, by simpa using hp⟩)]]
  · rename_i mt r
    cases r with
    | none => rfl
    | some r => simp only [opRes, effStep]; rw [hp]
  · rename_i it b
    have e1 := e it (by simp)
    cases b <;> simp only [opRes, effStep, e1, pureA]
  · rename_i c
    obtain ⟨callee, args, ats⟩ := c
    have ea : args.toList.map (evalA t) = args.toList.map (evalA t') := map_evalA fun x hx => e x (by simp only [Call.operands]; cases callee <;> simp at hx ⊢ <;> simp [hx])
    cases callee with
    | value f =>
      have ef := e f (by simp [Call.operands])
      simp only [opRes, ef, ea]
    | invoke r m =>
      have er := e r (by simp [Call.operands])
      simp only [opRes, er, ea]
    | builtin b =>
      have ea2 : ∀ x ∈ args.toList, evalA t x = evalA t' x := fun x hx => e x (by simpa [Call.operands] using hx)
      cases b <;> first
        | (simp only [opRes, effStep]; rw [hp]; done)
        | skip
      all_goals
        simp only [opRes, effStep]
        generalize args.toList = l at ea ea2 ⊢
        generalize ats.toList = m
        first
          | (match l, m with
             | [], _ => rfl
             | [x], _ => rfl
             | [x, y], [] => rfl
             | [x, y], [_] => rfl
             | [x, y], [_, _] => simp only [ea2 x (by simp), ea2 y (by simp)]
             | [x, y], _ :: _ :: _ :: _ => rfl
             | _ :: _ :: _ :: _, _ => rfl)
          | (cases l with
             | nil => rfl
             | cons x xs => simp only [List.map_cons, List.cons.injEq] at ea; simp only [ea.1, ea.2])

/-! ### What is told of calls; reads of what is read-only -/
/-- A function value, its arguments, what it hands back. -/
abbrev Gam := List (AV × List AV × AV)
def Gam.ok (P : Program) : Gam → Prop
  | [] => True
  | e :: Γ => PureV P e.1 e.2.1 e.2.2 ∧ Gam.ok P Γ
open Classical in
noncomputable def gamGet : Gam → AV → List AV → Option AV
  | [], _, _ => none
  | e :: Γ, f, xs => if e.1 = f ∧ e.2.1 = xs then some e.2.2 else gamGet Γ f xs
theorem gamGet_ok {Γ : Gam} (hΓ : Γ.ok P) {f : AV} {xs : List AV} {r : AV} (e : gamGet Γ f xs = some r) : PureV P f xs r := by
  induction Γ with
  | nil => simp [gamGet] at e
  | cons q Γ ih =>
    simp only [gamGet] at e
    split at e
    · next hq => cases e; obtain ⟨h1, h2⟩ := hq; rw [← h1, ← h2]; exact hΓ.1
    · exact ih hΓ.2 e
theorem gamGet_here {Γ : Gam} {f : AV} {xs : List AV} {r : AV} : gamGet ((f, xs, r) :: Γ) f xs = some r := by simp [gamGet]
open Classical in
theorem gamGet_cons {Γ : Gam} {f g : AV} {xs ys : List AV} {r : AV} : gamGet ((g, ys, r) :: Γ) f xs = if g = f ∧ ys = xs then some r else gamGet Γ f xs := rfl
theorem gamGet_nil {f : AV} {xs : List AV} : gamGet [] f xs = none := rfl

def frozenA (P : Program) (lt : TypeId) (x : AV) : Option AV := match x with | .fptr cells => loadA P lt cells | _ => none
@[simp] theorem frozenA_fptr {lt : TypeId} {cells : List AV} : frozenA P lt (.fptr cells) = loadA P lt cells := nrfl rfl

def flag (fl : List Nat) (o : Oper) : Bool := match o.dst with | some d => fl.contains d | none => false

/-- The value of an operation that is told to hang on its operands alone. -/
noncomputable def valG (P : Program) (Γ : Gam) (t : AF) : Op → Option AV
  | .call { callee := .value f, args, .. } => gamGet Γ (evalA t f) (args.toList.map (evalA t))
  | .load lt x => frozenA P lt (evalA t x)
  | _ => none

noncomputable def resG (P : Program) (Γ : Gam) (fl : List Nat) (o : Oper) (t : AF) (h : AHeap) (R : AV → AHeap → Prop) : Prop :=
  if flag fl o = true then onSome (valG P Γ t o.op) fun v => R v h else opRes P o t h R
noncomputable def stepG (P : Program) (Γ : Gam) (fl : List Nat) (o : Oper) (K : AF → AHeap → Prop) (t : AF) (h : AHeap) : Prop := resG P Γ fl o t h fun r h' => K (t.putO o.dst r) h'

noncomputable def stepW (P : Program) (Γ : Gam) (fl : List Nat) (ops : Array Oper) (o : Oper) (K : AF → AHeap → Prop) (t : AF) (h : AHeap) : Prop :=
  match wantedA ops t o with
  | some true => stepG P Γ fl o K t h
  | some false => K (t.putO o.dst (.tup [])) h
  | none => False

noncomputable def awpOpsG (P : Program) (Γ : Gam) (fl : List Nat) (ops : Array Oper) (K : AF → AHeap → Prop) : List Oper → AF → AHeap → Prop
  | [], t, h => K t h
  | o :: rest, t, h => stepW P Γ fl ops o (awpOpsG P Γ fl ops K rest) t h

theorem resG_op {Γ : Gam} (hΓ : Γ.ok P) {fl : List Nat} {R : AV → AHeap → Prop} (e : resG P Γ fl o t h R) : opRes P o t h R := by
  unfold resG at e
  split at e
  · next hfl =>
    rw [onSome_iff] at e
    obtain ⟨v, hv, k⟩ := e
    clear hfl
    obtain ⟨d, op, ty, pos, af, g⟩ := o
    cases op
    case load lt x =>
      simp only [valG, frozenA] at hv
      split at hv
      · next cells hx => simp only [opRes, effStep, pureA, hx, hv]; exact k
      · cases hv
    case call c =>
      obtain ⟨callee, args, ats⟩ := c
      cases callee with
      | value f =>
        simp only [valG] at hv
        have q := gamGet_ok hΓ hv h
        exact ACallV.mono q fun r' h' hh => by rw [hh.1, hh.2]; exact k
      | invoke r m => simp [valG] at hv
      | builtin b => simp [valG] at hv
    all_goals simp [valG] at hv
  · exact e

theorem stepG_mono {Γ : Gam} {fl : List Nat} (e : stepG P Γ fl o K t h) (hk : ∀ t h, K t h → K' t h) : stepG P Γ fl o K' t h := by
  unfold stepG resG at *
  split at e
  · next hf =>
    rw [if_pos hf]
    rw [onSome_iff] at e ⊢
    obtain ⟨v, hv, k⟩ := e
    exact ⟨v, hv, hk _ _ k⟩
  · next hf => rw [if_neg hf]; exact opRes_mono e fun _ _ q => hk _ _ q
theorem stepW_mono {Γ : Gam} {fl : List Nat} (e : stepW P Γ fl ops o K t h) (hk : ∀ t h, K t h → K' t h) : stepW P Γ fl ops o K' t h := by
  unfold stepW at *
  split at e
  · exact stepG_mono e hk
  · exact hk _ _ e
  · exact e.elim

/-! ### Exchange -/
def valCls : Cls → Bool | .pur | .read => true | _ => false
def clsG (fl : List Nat) (o : Oper) : Cls := if flag fl o then .pur else clsOf o.op

/-- The value of an operation that leaves memory alone. -/
noncomputable def vG (P : Program) (Γ : Gam) (fl : List Nat) (ops : Array Oper) (o : Oper) (t : AF) (h : AHeap) : Option AV :=
  match wantedA ops t o with
  | some true => if flag fl o = true then valG P Γ t o.op else valA P t h o.op
  | some false => some (.tup [])
  | none => none

variable {Γ : Gam} {fl : List Nat}

theorem stepW_val (hc : valCls (clsG fl o) = true) : stepW P Γ fl ops o K t h = onSome (vG P Γ fl ops o t h) fun v => K (t.putO o.dst v) h := by
  unfold stepW vG
  cases hw : wantedA ops t o with
  | none => rfl
  | some b =>
    cases b with
    | false => rfl
    | true =>
      simp only [stepG, resG]
      split
      · rfl
      · next hf =>
        have : clsOf o.op = .pur ∨ clsOf o.op = .read := by
          unfold clsG at hc
          rw [if_neg (by simpa using hf)] at hc
          cases e : clsOf o.op <;> simp_all [valCls]
        exact opRes_val _ this

theorem wantedA_congr (e : ∀ d, d ∈ (match o.guard with | some (g, _) => ((ops[g]?).bind (·.dst)).toList | none => []) → t d = t' d) : wantedA ops t o = wantedA ops t' o := by
  unfold wantedA
  cases hg : o.guard with
  | none => rfl
  | some q =>
    obtain ⟨j, want⟩ := q
    simp only
    cases hd : (ops[j]?).bind (·.dst) with
    | none => rfl
    | some d =>
      have : t d = t' d := e d (by rw [hg]; simp [hd])
      simp only [this]

def Agree (ops : Array Oper) (o : Oper) (t t' : AF) : Prop := ∀ d ∈ o.looksAt ops, t d = t' d
theorem Agree.evalA (A : Agree ops o t t') : ∀ x ∈ o.op.operands, evalA t x = evalA t' x := by
  intro x hx
  cases x with
  | tmp d => exact A d (List.mem_append_left _ (List.mem_filterMap.2 ⟨.tmp d, by simpa using hx, rfl⟩))
  | const v => rfl
  | global b => rfl
  | func f => rfl
theorem Agree.wanted (A : Agree ops o t t') : wantedA ops t o = wantedA ops t' o := wantedA_congr fun d hd => A d (List.mem_append_right _ hd)
theorem Agree.put {d : Option Nat} {v : AV} (hd : ∀ i, d = some i → i ∉ o.looksAt ops) : Agree ops o (t.putO d v) t := by
  intro i hi
  cases d with
  | none => rfl
  | some j =>
    have hne : i ≠ j := fun e => hd j rfl (e ▸ hi)
    simp [AF.putO, AF.put, hne]
theorem Agree.symm (A : Agree ops o t t') : Agree ops o t' t := fun d hd => (A d hd).symm

theorem valG_congr {op : Op} (e : ∀ x ∈ op.operands, evalA t x = evalA t' x) : valG P Γ t op = valG P Γ t' op := by
  cases op <;> first | rfl | skip
  · rename_i lt x
    simp only [valG, e x (by simp [Op.operands])]
  · rename_i c
    obtain ⟨callee, args, ats⟩ := c
    cases callee with
    | value f =>
      have ef := e f (by simp [Op.operands, Call.operands])
      have ea : args.toList.map (evalA t) = args.toList.map (evalA t') := map_evalA fun x hx => e x (by simp at hx; simp [Op.operands, Call.operands, hx])
      simp only [valG, ef, ea]
    | invoke r m => rfl
    | builtin b => rfl

theorem valA_congr {op : Op} (e : ∀ x ∈ op.operands, evalA t x = evalA t' x) : valA P t h op = valA P t' h op := by
  have hp := pureA_congr (P := P) (h := h) e
  cases op <;> first | exact hp | skip
  · rename_i mt m k ok
    simp only [valA, lookA, e m (by simp [Op.operands]), e k (by simp [Op.operands])]
  · rename_i c
    obtain ⟨callee, args, ats⟩ := c
    cases callee with
    | value f => exact hp
    | invoke r m => exact hp
    | builtin b =>
      have ea : ∀ x ∈ args.toList, evalA t x = evalA t' x := fun x hx => e x (by simp at hx; simp [Op.operands, Call.operands, hx])
      cases b <;> first | exact hp | skip
      all_goals
        simp only [valA, mmA]
        generalize args.toList = l at ea ⊢
        cases l with
        | nil => rfl
        | cons x xs => simp only [ea x (by simp), map_evalA (xs := xs) fun y hy => ea y (List.mem_cons_of_mem _ hy)]

theorem vG_congr (A : Agree ops o t t') : vG P Γ fl ops o t h = vG P Γ fl ops o t' h := by
  unfold vG
  rw [A.wanted, valG_congr A.evalA, valA_congr A.evalA]

theorem stepW_congr (A : Agree ops o t t') (hk : ∀ v h', K (t.putO o.dst v) h' → K' (t'.putO o.dst v) h') (e : stepW P Γ fl ops o K t h) : stepW P Γ fl ops o K' t' h := by
  unfold stepW at *
  rw [← A.wanted]
  split at e
  · next hw =>
    simp only [stepG, resG] at e ⊢
    split at e
    · next hf =>
      rw [if_pos hf, ← valG_congr A.evalA]
      rw [onSome_iff] at e ⊢
      obtain ⟨v, hv, k⟩ := e
      exact ⟨v, hv, hk _ _ k⟩
    · next hf =>
      rw [if_neg hf, ← opRes_congr _ A.evalA]
      exact opRes_mono e fun v h' k => hk _ _ k
  · next hw => exact hk _ _ e
  · exact e.elim

/-- Heaps that grow. -/
def HLe (h h' : AHeap) : Prop := ∀ b c, h b = some c → h' b = some c
theorem HLe.upd {b : Nat} {c : Chunk} (e : h b = none) : HLe h (h.upd b c) := fun i d hd => by
  have : i ≠ b := fun e' => by rw [e', e] at hd; cases hd
  rw [AHeap.upd_ne this]; exact hd

theorem mapAt_le (x : HLe h h') {a : AV} {q : Nat × KShape × List (AV × AV)} (e : mapAt h a = some q) : mapAt h' a = some q := by
  obtain ⟨b, sh, es⟩ := q
  obtain ⟨rfl, hb⟩ := mapAt_spec e
  exact mapAt_eq (x _ _ hb)

theorem cellsOf_le (x : HLe h h') {a : AV} {q : List AV} (e : cellsOfSlice h a = some q) : cellsOfSlice h' a = some q := by
  cases a <;> simp only [cellsOfSlice] at e ⊢ <;> first | exact e | skip
  split at e
  · next cs hb => rw [x _ _ hb]; exact e
  · cases e

theorem valA_le (x : HLe h h') {op : Op} {v : AV} (e : valA P t h op = some v) : valA P t h' op = some v := by
  cases op
  case load lt y =>
    simp only [valA, pureA] at e ⊢
    split at e
    · next b off hy =>
      split at e
      · next cs hb => simp only [x _ _ hb]; exact e
      · cases e
    · next cells hy => exact e
    · cases e
  case convert s d y =>
    simp only [valA, pureA, convA] at e ⊢
    split at e <;> first | exact e | skip
    split at e <;> first | exact e | skip
    split at e <;> first | (cases e; done) | skip
    next h1 =>
    rw [if_pos h1]
    split at e
    · next cells hc => rw [cellsOf_le x hc]; exact e
    · cases e
  case slice ty y lo hi mx =>
    cases mx with
    | some m => exact e
    | none =>
      simp only [valA, pureA] at e ⊢
      split at e
      · next n el hu =>
        unfold arrSliceA at e ⊢
        split at e <;> first | (cases e; done) | skip
        split at e <;> first | (cases e; done) | skip
        next h1 =>
        rw [if_pos h1]
        split at e <;> first | exact e | skip
        split at e <;> first | (cases e; done) | skip
        next cs hb => simp only [x _ _ hb]; exact e
      · next hna => exact e
  case lookup mt m k ok =>
    simp only [valA, lookA] at e ⊢
    cases hm : mapT P mt with
    | none => rw [hm] at e; cases e
    | some mm =>
      rw [hm] at e
      simp only [Option.bind_some] at e ⊢
      cases hz : mm.2 with
      | none => rw [hz] at e; cases e
      | some z =>
        rw [hz] at e
        simp only [Option.bind_some] at e ⊢
        cases hq : mapAt h (evalA t m) with
        | none => rw [hq] at e; cases e
        | some q => rw [hq] at e; rw [mapAt_le x hq]; exact e
  case call c =>
    obtain ⟨callee, args, ats⟩ := c
    cases callee with
    | value f => exact e
    | invoke r m => exact e
    | builtin b =>
      cases b <;> first | exact e | skip
      simp only [valA, pureA] at e ⊢
      split at e
      · next y ty ha hb =>
        simp only [lenA] at e ⊢
        split at e <;> first | exact e | skip
        next hu b hx =>
        split at e
        · next sh es hb => simp only [x _ _ hb]; exact e
        · cases e
      · cases e
  all_goals exact e

theorem vG_le (x : HLe h h') {v : AV} (e : vG P Γ fl ops o t h = some v) : vG P Γ fl ops o t h' = some v := by
  unfold vG at *
  split at e
  · split at e
    · next hf => rw [if_pos hf]; exact e
    · next hf => rw [if_neg hf]; exact valA_le x e
  · exact e
  · cases e

theorem valA_pur {op : Op} (hc : clsOf op = .pur) : valA P t h op = valA P t h' op := by
  cases op
  case call c =>
    obtain ⟨callee, args, ats⟩ := c
    cases callee with
    | value f => simp [clsOf] at hc
    | invoke r m => simp [clsOf] at hc
    | builtin b => cases b <;> simp [clsOf] at hc
  case slice a b c d m => cases m <;> first | rfl | (simp [clsOf] at hc; done)
  case makeMap a r => cases r <;> simp [clsOf] at hc
  all_goals first | rfl | (simp [clsOf] at hc; done)

theorem vG_pur (hc : clsG fl o = .pur) : vG P Γ fl ops o t h = vG P Γ fl ops o t h' := by
  unfold vG
  split
  · split
    · rfl
    · next hf =>
      unfold clsG at hc
      rw [if_neg (by simpa using hf)] at hc
      exact valA_pur hc
  · rfl
  · rfl

theorem AF.putO_comm {d d' : Option Nat} {v v' : AV} (hne : ∀ i, d = some i → d' ≠ some i) : (t.putO d v).putO d' v' = (t.putO d' v').putO d v := by
  cases d with
  | none => rfl
  | some i =>
    cases d' with
    | none => rfl
    | some j =>
      have : i ≠ j := fun e => hne i rfl (by rw [e])
      funext k
      simp only [AF.putO, AF.put]
      by_cases h1 : k = j <;> by_cases h2 : k = i <;> simp_all

/-- May x, which stands first, be taken behind y? -/
def swapOk (P : Program) (ops : Array Oper) (fl : List Nat) (x y : Oper) : Bool :=
  x.apart ops y && (match clsG fl x, clsG fl y with
    | .pur, _ => true
    | .read, .pur => true
    | .read, .read => true
    | .read, .new => y.guard.isNone
    | .new, .new => x.guard.isNone && y.guard.isNone && (match y.op with | .alloc e => (zeroT P e).isSome | _ => false)
    | _, _ => false)

theorem stepW_new {q : Option (Chunk × (Nat → AV))} (hc : clsG fl o = .new) (hg : o.guard = none) (hq : allocA P t o.op = q) : stepW P Γ fl ops o K t h = onSome q fun q => newA h q.1 fun b h' => K (t.putO o.dst (q.2 b)) h' := by
  have hf : ¬ flag fl o = true := by
    intro hf
    unfold clsG at hc
    rw [if_pos hf] at hc; cases hc
  have hc' : clsOf o.op = .new := by unfold clsG at hc; rwa [if_neg hf] at hc
  unfold stepW
  simp only [wantedA, hg, stepG, resG, if_neg hf]
  rw [opRes_new _ hc', hq]

theorem allocA_congr {op : Op} (e : ∀ x ∈ op.operands, evalA t x = evalA t' x) : allocA P t op = allocA P t' op := by
  cases op <;> first | rfl | skip
  all_goals simp only [Op.operands] at e
  all_goals try rfl
  · rename_i bt x
    simp only [allocA, e x (by simp)]
  · rename_i bt len parts
    simp only [allocA]
    rw [show (parts.toList.map fun p => (p.1, evalA t p.2)) = parts.toList.map fun p => (p.1, evalA t' p.2) from List.map_congr_left fun p hp => by rw [e p.2 (by simp; exact ⟨p.1, by simpa using hp⟩)]]
  · rename_i mt r
    cases r <;> rfl
  · rename_i st l c
    simp only [allocA, e l (by simp), e c (by simp)]

theorem swap {x y : Oper} (hs : swapOk P ops fl x y = true) (e : stepW P Γ fl ops x (stepW P Γ fl ops y K) t h) : stepW P Γ fl ops y (stepW P Γ fl ops x K) t h := by
  simp only [swapOk, Bool.and_eq_true] at hs
  obtain ⟨hap, hc⟩ := hs
  obtain ⟨a1, a2, a3⟩ := Oper.apart_spec hap
  -- x hangs on no memory, or y turns none
  have key : (valCls (clsG fl x) = true) → (∀ t1 h1 v, vG P Γ fl ops x t1 h1 = some v → ∀ K', stepW P Γ fl ops y K' t1 h1 → stepW P Γ fl ops y (fun t' h' => K' t' h' ∧ vG P Γ fl ops x t1 h' = some v) t1 h1) → stepW P Γ fl ops y (stepW P Γ fl ops x K) t h := by
    intro hv hst
    rw [stepW_val hv, onSome_iff] at e
    obtain ⟨v, hv1, e⟩ := e
    have e2 : stepW P Γ fl ops y (fun t' h' => K (t'.putO x.dst v) h') t h := by
      refine stepW_congr (Agree.put a1) (fun u h' k => ?_) e
      rw [AF.putO_comm a2] at k
      exact k
    have e3 := hst t h v hv1 _ e2
    refine stepW_congr (K := fun t' h' => K (t'.putO x.dst v) h' ∧ vG P Γ fl ops x t h' = some v) (fun d _ => rfl) (fun u h' k => ?_) e3
    rw [stepW_val hv, onSome_iff]
    refine ⟨v, ?_, k.1⟩
    rw [vG_congr (Agree.put a3)]; exact k.2
  have still : ∀ (t1 : AF) (h1 : AHeap) (v : AV), valCls (clsG fl y) = true → vG P Γ fl ops x t1 h1 = some v → ∀ K' : AF → AHeap → Prop, stepW P Γ fl ops y K' t1 h1 → stepW P Γ fl ops y (fun t' h' => K' t' h' ∧ vG P Γ fl ops x t1 h' = some v) t1 h1 := by
    intro t1 h1 v hy hx K' e
    rw [stepW_val hy, onSome_iff] at e ⊢
    obtain ⟨u, hu, k⟩ := e
    exact ⟨u, hu, k, hx⟩
  cases hx : clsG fl x <;> rw [hx] at hc
  case pur =>
    -- x hangs on its operands alone
    refine key (by rw [hx]; rfl) fun t1 h1 v hv K' e => stepW_congr (fun d _ => rfl) (fun u h' k => ?_) e
    exact ⟨k, (vG_pur hx).trans hv⟩
  case read =>
    cases hy : clsG fl y <;> rw [hy] at hc
    case pur => exact key (by rw [hx]; rfl) fun t1 h1 v hv K' e => still t1 h1 v (by rw [hy]; rfl) hv K' e
    case read => exact key (by rw [hx]; rfl) fun t1 h1 v hv K' e => still t1 h1 v (by rw [hy]; rfl) hv K' e
    case new =>
      have hg : y.guard = none := by simpa using hc
      refine key (by rw [hx]; rfl) fun t1 h1 v hv K' e => ?_
      rw [stepW_new hy hg rfl, onSome_iff] at e ⊢
      obtain ⟨q, hq, e⟩ := e
      exact ⟨q, hq, fun b hb => ⟨e b hb, vG_le (HLe.upd hb) hv⟩⟩
    case oth => cases hc
  case new =>
    cases hy : clsG fl y <;> rw [hy] at hc <;> first | (cases hc; done) | skip
    simp only [Bool.and_eq_true] at hc
    have hgx : x.guard = none := by simpa using hc.1.1
    have hgy : y.guard = none := by simpa using hc.1.2
    have hal := hc.2
    rw [stepW_new hx hgx rfl, onSome_iff] at e
    obtain ⟨q, hq, e⟩ := e
    have ey : ∀ b, Fresh h b → onSome (allocA P t y.op) fun q' => newA (h.upd b q.1) q'.1 fun b' h' => K ((t.putO x.dst (q.2 b)).putO y.dst (q'.2 b')) h' := by
      intro b hb
      have := e b hb
      simp only at this
      rw [stepW_new hy hgy rfl, allocA_congr (Agree.put (o := y) a1).evalA] at this
      exact this
    rw [stepW_new hy hgy rfl]
    cases hqy : allocA P t y.op with
    | none =>
      exfalso
      cases hyo : y.op <;> rw [hyo] at hal hqy <;> first | (cases hal; done) | skip
      simp only [allocA, Option.map_eq_none_iff] at hqy
      simp only [hqy] at hal
      cases hal
    | some q' =>
      rw [hqy] at ey
      simp only [onSome_some] at ey ⊢
      intro b' hb'
      rw [stepW_new hx hgx rfl, allocA_congr (Agree.put (o := x) a3).evalA, hq]
      simp only [onSome_some]
      intro b hb
      rw [fresh_upd] at hb
      obtain ⟨n1, n2, hb⟩ := hb
      have k := ey b hb b' (by rw [fresh_upd]; exact ⟨n2, n1, hb'⟩)
      simp only at k ⊢
      rw [AF.putO_comm a2, AHeap.upd_comm n1] at k
      exact k
  case oth => cases hc

/-! ### All orders -/
/-- Does i come behind j, whatever the order? -/
def anc (ops : Array Oper) : Nat → Nat → Nat → Bool
  | 0, _, _ => false
  | k + 1, i, j => match ops[i]? with
    | some o => o.after.any (fun e => Region.binds .any e && e.on == j) || o.after.any (fun e => Region.binds .any e && anc ops k e.on j)
    | none => false

/-- Every operation's forerunners stand ahead of it. -/
def ordOk (ops : Array Oper) : List Nat → List Nat → Bool
  | _, [] => true
  | done, i :: rest => (match ops[i]? with
      | some o => o.after.all fun e => !Region.binds .any e || done.contains e.on
      | none => false) && !done.contains i && ordOk ops (i :: done) rest
def pairsOk (P : Program) (ops : Array Oper) (fl : List Nat) : List Nat → Bool
  | [] => true
  | i :: rest => rest.all (fun j => anc ops ops.size j i || (match ops[i]?, ops[j]? with | some x, some y => swapOk P ops fl x y | _, _ => false)) && pairsOk P ops fl rest
def drawOk (P : Program) (ops : Array Oper) (fl ord : List Nat) : Bool := ordOk ops [] ord && pairsOk P ops fl ord && (List.range ops.size).all ord.contains && decide (ord.length = ops.size)

def opersOf (ops : Array Oper) (l : List Nat) : List Oper := l.filterMap (ops[·]?)

theorem bubble {i : Nat} {oi : Oper} (hi : ops[i]? = some oi) : ∀ (A B : List Nat) (t : AF) (h : AHeap), (∀ a ∈ A, ∃ oa, ops[a]? = some oa ∧ swapOk P ops fl oa oi = true) →
    awpOpsG P Γ fl ops K (opersOf ops (A ++ i :: B)) t h → awpOpsG P Γ fl ops K (opersOf ops (i :: (A ++ B))) t h
  | [], B, t, h, _, e => e
  | a :: A, B, t, h, hA, e => by
    obtain ⟨oa, ha, hs⟩ := hA a (by simp)
    have e1 : awpOpsG P Γ fl ops K (oa :: opersOf ops (A ++ i :: B)) t h := by simpa [opersOf, ha] using e
    have e2 : stepW P Γ fl ops oa (stepW P Γ fl ops oi (awpOpsG P Γ fl ops K (opersOf ops (A ++ B)))) t h := by
      refine stepW_mono e1 fun t h k => ?_
      have := bubble hi A B t h (fun b hb => hA b (by simp [hb])) k
      simpa [opersOf, hi, awpOpsG] using this
    have e3 := swap hs e2
    simpa [opersOf, hi, ha, awpOpsG] using e3
end

section
variable {P : Program} {w : World} {h hf : AHeap} {t : AF} {a : Act} {o : Oper} {N B : Nat} {ro : Option Nat} {ops : Array Oper} {K : AF → AHeap → Prop} {Γ : Gam} {fl : List Nat}

theorem stepW_sound (G : Good w h hf a t N B) (hk : opsOk N ops = true) (hΓ : Γ.ok P) {i : Nat} (hi : ops[i]? = some o) (e : stepW P Γ fl ops o K t h) (Q : Exit → Act → World → Prop) (K' : Act → World → Prop)
    (hK : ∀ a' w', To w h hf N B K a' w' → K' a' w') : wpOpIn (fence ro) 0 P ops Q i K' a w := by
  obtain ⟨hd, hdef, _⟩ := opsOk_spec hk hi
  unfold stepW at e
  unfold wpOpIn
  rw [hi]
  split at e
  · next hw =>
    simp only [wanted_of G (guard_spec hk) hw, if_true]
    have e' : opStep P o K t h := resG_op hΓ e
    exact Oper.wpIn_mono hK (opStep_sound G hd hdef e' Q)
  · next hw =>
    simp only [wanted_of G (guard_spec hk) hw, Bool.false_eq_true, if_false]
    exact ⟨fun _ _ => trivial, hK _ _ (To.refl (G.skip hd) e)⟩
  · exact e.elim

theorem anc_listed {listed : Array Bool} (hdown : ∀ x ox, ops[x]? = some ox → listed.getD x false = true → ∀ e ∈ ox.after, Region.binds .any e = true → listed.getD e.on false = true) :
    ∀ (k i j : Nat) (oi : Oper), ops[i]? = some oi → (∀ e ∈ oi.after, Region.binds .any e = true → listed.getD e.on false = true) → anc ops k i j = true → listed.getD j false = true
  | 0, _, _, _, _, _, e => by simp [anc] at e
  | k + 1, i, j, oi, hi, hall, e => by
    simp only [anc, hi, Bool.or_eq_true] at e
    rcases e with e | e
    · rw [Array.any_eq_true'] at e
      obtain ⟨ed, hed, e⟩ := e
      simp only [Bool.and_eq_true, beq_iff_eq] at e
      rw [← e.2]; exact hall ed hed e.1
    · rw [Array.any_eq_true'] at e
      obtain ⟨ed, hed, e⟩ := e
      simp only [Bool.and_eq_true] at e
      have hl := hall ed hed e.1
      cases ho : ops[ed.on]? with
      | none => cases k <;> simp [anc, ho] at e
      | some o' => exact anc_listed hdown k ed.on j o' ho (hdown _ _ ho hl) e.2

theorem pairs_swap : ∀ (A : List Nat) (i : Nat) (B : List Nat), pairsOk P ops fl (A ++ i :: B) = true → ∀ a ∈ A, anc ops ops.size i a = true ∨ ∃ oa oi, ops[a]? = some oa ∧ ops[i]? = some oi ∧ swapOk P ops fl oa oi = true
  | [], _, _, _, a, ha => by simp at ha
  | b :: A, i, B, e, a, ha => by
    simp only [List.cons_append, pairsOk, Bool.and_eq_true] at e
    rcases List.mem_cons.1 ha with rfl | ha
    · have := List.all_eq_true.1 e.1 i (by simp)
      simp only [Bool.or_eq_true] at this
      rcases this with h1 | h1
      · exact .inl h1
      · split at h1
        · next x y hx hy => exact .inr ⟨x, y, hx, hy, h1⟩
        · cases h1
    · exact pairs_swap A i B e.2 a ha

theorem pairs_drop : ∀ (A : List Nat) (i : Nat) (B : List Nat), pairsOk P ops fl (A ++ i :: B) = true → pairsOk P ops fl (A ++ B) = true
  | [], _, _, e => by simp only [List.nil_append, pairsOk, Bool.and_eq_true] at e; exact e.2
  | b :: A, i, B, e => by
    simp only [List.cons_append, pairsOk, Bool.and_eq_true] at e ⊢
    refine ⟨?_, pairs_drop A i B e.2⟩
    rw [List.all_eq_true] at e ⊢
    intro x hx
    exact e.1 x (by simp at hx ⊢; rcases hx with hx | hx <;> simp [hx])

def OrdP (ops : Array Oper) (S : Nat → Prop) : List Nat → Prop
  | [] => True
  | i :: rest => (∃ o, ops[i]? = some o ∧ ∀ e ∈ o.after, Region.binds .any e = true → S e.on) ∧ OrdP ops (fun j => S j ∨ j = i) rest

theorem OrdP.mono : ∀ (L : List Nat) {S S' : Nat → Prop}, (∀ j, S j → S' j) → OrdP ops S L → OrdP ops S' L
  | [], _, _, _, _ => trivial
  | i :: L, S, S', hs, e => by
    obtain ⟨⟨o, ho, ha⟩, e2⟩ := e
    refine ⟨⟨o, ho, fun ed hed hb => hs _ (ha ed hed hb)⟩, OrdP.mono L (fun j => ?_) e2⟩
    rintro (q | q)
    · exact .inl (hs _ q)
    · exact .inr q

theorem OrdP.drop : ∀ (A : List Nat) (i : Nat) (B : List Nat) {S : Nat → Prop}, OrdP ops S (A ++ i :: B) → OrdP ops (fun j => S j ∨ j = i) (A ++ B)
  | [], _, _, _, e => e.2
  | b :: A, i, B, S, e => by
    obtain ⟨⟨o, ho, ha⟩, e2⟩ := e
    refine ⟨⟨o, ho, fun ed hed hb => .inl (ha ed hed hb)⟩, OrdP.mono _ (fun j => ?_) (OrdP.drop A i B e2)⟩
    rintro ((q | q) | q)
    · exact .inl (.inl q)
    · exact .inr q
    · exact .inl (.inr q)

theorem ordP_of : ∀ (L done : List Nat), ordOk ops done L = true → OrdP ops (· ∈ done) L
  | [], _, _ => trivial
  | i :: L, done, e => by
    simp only [ordOk, Bool.and_eq_true] at e
    obtain ⟨⟨e1, e2⟩, e3⟩ := e
    refine ⟨?_, OrdP.mono L (fun j hj => ?_) (ordP_of L _ e3)⟩
    · split at e1
      · next o ho =>
        refine ⟨o, ho, fun ed hed hb => ?_⟩
        have := (Array.all_eq_true_iff_forall_mem.1 e1) ed hed
        simp only [hb, Bool.not_true, Bool.false_or] at this
        simpa using this
      · cases e1
    · rcases List.mem_cons.1 hj with h1 | h1
      · exact .inr h1
      · exact .inl h1

theorem ordOk_nodup : ∀ (L done : List Nat), ordOk ops done L = true → L.Nodup ∧ ∀ i ∈ L, i ∉ done
  | [], _, _ => ⟨List.nodup_nil, fun i hi => absurd hi (by simp)⟩
  | i :: L, done, e => by
    simp only [ordOk, Bool.and_eq_true] at e
    obtain ⟨⟨e1, e2⟩, e3⟩ := e
    obtain ⟨q1, q2⟩ := ordOk_nodup L _ e3
    refine ⟨List.nodup_cons.2 ⟨fun hi => q2 i hi (by simp), q1⟩, fun j hj => ?_⟩
    rcases List.mem_cons.1 hj with rfl | hj
    · simpa using e2
    · exact fun hd => q2 j hj (by simp [hd])

/-- **The region's rule: one order of evaluation for all.** -/
theorem any_sound (hk : opsOk N ops = true) (hΓ : Γ.ok P) {Q : Exit → Act → World → Prop} : ∀ (fuel : Nat) (L : List Nat) (listed : Array Bool) (t : AF) (h : AHeap) (a : Act) (w : World),
    L.length = fuel → listed.size = ops.size → (∀ i, i < ops.size → (i ∈ L ↔ listed.getD i false = false)) → (∀ i ∈ L, i < ops.size) → L.Nodup → pairsOk P ops fl L = true →
    (∀ x ox, ops[x]? = some ox → listed.getD x false = true → ∀ e ∈ ox.after, Region.binds .any e = true → listed.getD e.on false = true) →
    OrdP ops (fun j => listed.getD j false = true) L →
    Good w h hf a t N B → awpOpsG P Γ fl ops K (opersOf ops L) t h → (∀ a' w', To w h hf N B K a' w' → Q .normal a' w') → wpAnyIn (fence ro) 0 P .any ops Q fuel listed a w := by
  intro fuel
  induction fuel with
  | zero =>
    intro L listed t h a w hl hsz hmem hlt hnd hp hdown hord G e hq
    have hL : L = [] := List.eq_nil_of_length_eq_zero hl
    subst hL
    refine ⟨?_, hq _ _ (To.refl G e)⟩
    rw [List.eq_nil_iff_forall_not_mem]
    intro j hj
    obtain ⟨h0, o, ho, _⟩ := mem_ready.1 hj
    have hjlt : j < ops.size := (Array.getElem?_eq_some_iff.1 ho).1
    have hjl : j < listed.size := by rw [hsz]; exact hjlt
    have : j ∈ ([] : List Nat) := (hmem j hjlt).2 (by simp [Array.getD_eq_getD_getElem?, hjl] at h0 ⊢; exact h0)
    simp at this
  | succ fuel ih =>
    intro L listed t h a w hl hsz hmem hlt hnd hp hdown hord G e hq
    have conv : ∀ j, j < ops.size → (listed.getD j true = listed.getD j false) := by
      intro j hj
      have hjl : j < listed.size := by rw [hsz]; exact hj
      simp [Array.getD_eq_getD_getElem?, hjl]
    refine ⟨fun hr => ?_, fun i hi => ?_⟩
    · cases hL : L with
      | nil => rw [hL] at hl; simp at hl
      | cons x L' =>
        rw [hL] at hord
        obtain ⟨⟨ox, hox, hall⟩, _⟩ := hord
        have hx : x ∈ Region.ready .any ops listed := by
          have hxl := hlt x (by rw [hL]; simp)
          exact mem_ready.2 ⟨by rw [conv x hxl]; exact (hmem x hxl).1 (by rw [hL]; simp), ox, hox, hall⟩
        rw [hr] at hx; simp at hx
    · obtain ⟨h0, oi, hoi, hall⟩ := mem_ready.1 hi
      have hilt : i < ops.size := (Array.getElem?_eq_some_iff.1 hoi).1
      have hil : i < listed.size := by rw [hsz]; exact hilt
      rw [conv i hilt] at h0
      have hiL := (hmem i hilt).2 h0
      obtain ⟨A, B', hAB⟩ := List.append_of_mem hiL
      rw [hAB] at e hp hord hnd
      have hsw : ∀ b ∈ A, ∃ ob, ops[b]? = some ob ∧ swapOk P ops fl ob oi = true := by
        intro b hb
        rcases pairs_swap A i B' hp b hb with q | ⟨ob, oi', q1, q2, q3⟩
        · have h1 := anc_listed hdown ops.size i b oi hoi hall q
          have hbl := hlt b (by rw [hAB]; simp [hb])
          have h2 := (hmem b hbl).1 (by rw [hAB]; simp [hb])
          rw [h1] at h2; cases h2
        · rw [hoi] at q2; cases q2
          exact ⟨ob, q1, q3⟩
      have e1 := bubble hoi A B' t h hsw e
      have e2 : stepW P Γ fl ops oi (awpOpsG P Γ fl ops K (opersOf ops (A ++ B'))) t h := by simpa [opersOf, hoi, awpOpsG] using e1
      have hset : ∀ j, (listed.setIfInBounds i true).getD j false = true ↔ (listed.getD j false = true ∨ j = i) := by
        intro j
        by_cases hji : i = j
        · subst hji; simp [hil]
        · rw [getD_set_ne false hji]
          constructor
          · exact .inl
          · rintro (q | q)
            · exact q
            · exact absurd q.symm hji
      refine stepW_sound G hk hΓ hoi e2 Q _ fun a' w' T => ?_
      obtain ⟨t', h', k, G', s⟩ := T
      refine ih (A ++ B') (listed.setIfInBounds i true) t' h' a' w' ?_ (by simpa using hsz) (fun j hj => ?_) (fun j hj => hlt j ?_) ?_ (pairs_drop A i B' hp) (fun x ox hox hx => ?_) ?_ G' k (fun a'' w'' T => hq _ _ (T.trans s))
      · rw [hAB] at hl; simp at hl ⊢; omega
      · have := hset j
        have hm := hmem j hj
        rw [hAB] at hm
        have hni : i ∉ A ++ B' := by
          have := hnd
          rw [List.nodup_append] at this
          simp at this ⊢
          obtain ⟨_, ⟨h2, _⟩, h3⟩ := this
          exact ⟨fun ha => (h3 i ha).1 rfl, h2⟩
        constructor
        · intro hjm
          have hne : j ≠ i := fun e => hni (e ▸ hjm)
          have h1 := hm.1 (by simp at hjm ⊢; rcases hjm with q | q <;> simp [q])
          rw [getD_set_ne false (Ne.symm hne)]; exact h1
        · intro hjf
          have hne : j ≠ i := fun e => by
            rw [(hset j).2 (.inr e)] at hjf; cases hjf
          rw [getD_set_ne false (Ne.symm hne)] at hjf
          have := hm.2 hjf
          simp at this ⊢
          rcases this with q | q | q
          · exact .inl q
          · exact absurd q hne
          · exact .inr q
      · rw [hAB]; simp at hj ⊢; rcases hj with q | q <;> simp [q]
      · rw [List.nodup_append] at hnd ⊢
        simp at hnd ⊢
        obtain ⟨n1, ⟨n2, n3⟩, n4⟩ := hnd
        exact ⟨n1, n3, fun b hb c hc => (n4 b hb).2 c hc⟩
      · intro ed hed hb
        rw [hset] at hx ⊢
        rcases hx with hx | hx
        · exact .inl (hdown x ox hox hx ed hed hb)
        · subst hx
          rw [hoi] at hox; cases hox
          exact .inl (hall ed hed hb)
      · exact OrdP.mono _ (fun j => (hset j).2) (OrdP.drop A i B' hord)

/-- **A region that draws its order.** ord: one order that the text allows; fl: slots whose operations are told to hang on their operands alone (loads of what is read-only; calls that Γ tells of). -/
theorem awp_draws {id : Nat} {Q : Exit → AF → AHeap → Prop} (hm : P.follows .mixedOrders = true) (fl ord : List Nat) (Γ : Gam) (hk : opsOk N ops = true) (ho : drawOk P ops fl ord = true) (hΓ : Γ.ok P)
    (e : awpOpsG P Γ fl ops (Q .normal) (opersOf ops ord) t h) : AWP P ro N (.region id ops true) Q t h := by
  intro hf B w a G
  simp only [drawOk, Bool.and_eq_true] at ho
  obtain ⟨⟨⟨o1, o2⟩, o3⟩, o4⟩ := ho
  have o4 : ord.length = ops.size := by simpa using o4
  have G1 : Good { w with drawn := w.drawn + 1 } h hf a t N B :=
    ⟨G.disj, G.rel.drew, fun i => (G.frame i).ext (Ext.refl w (h.un hf)).drew, G.size, G.defers.ext (Ext.refl w (h.un hf)).drew, G.base⟩
  have s1 : Stp w h hf { w with drawn := w.drawn + 1 } h := ⟨(Ext.refl w (h.un hf)).drew, fun _ _ => rfl⟩
  refine wpIn_region_any hm (any_sound (fl := fl) (Γ := Γ) (K := Q .normal) hk hΓ ops.size ord (Array.replicate ops.size false) t h a _ o4 (by simp) (fun i hi => ?_) (fun i hi => ?_) (ordOk_nodup _ _ o1).1 o2 (fun x ox hox hx => ?_) ?_ G1 e (fun a' w' T => T.trans s1))
  · have := List.all_eq_true.1 o3 i (by simpa using hi)
    simp at this
    simp [this, hi]
  · have key : ∀ (L done : List Nat), ordOk ops done L = true → ∀ i ∈ L, i < ops.size := by
      intro L
      induction L with
      | nil => intro done _ i hi; simp at hi
      | cons x L ih =>
        intro done e i hi
        simp only [ordOk, Bool.and_eq_true] at e
        rcases List.mem_cons.1 hi with rfl | hi
        · obtain ⟨⟨e1, _⟩, _⟩ := e
          split at e1
          · next o ho => exact (Array.getElem?_eq_some_iff.1 ho).1
          · cases e1
        · exact ih _ e.2 i hi
    exact key ord [] o1 i hi
  · have : x < ops.size := (Array.getElem?_eq_some_iff.1 hox).1
    simp [this] at hx
  · exact OrdP.mono _ (fun j hj => by simp at hj) (ordP_of ord [] o1)
end
end Go.AH

end

section
/-
  Loops over functions: a round's body is told of frames and heaps; an iterator is told by the items that it hands over.
-/
namespace Go.AH
open Go

def Drop (h h' : AHeap) : Prop := ∀ b, h' b = none ∨ h' b = h b
theorem Drop.refl (h : AHeap) : Drop h h := fun _ => .inr rfl
theorem Drop.empty (h : AHeap) : Drop h AHeap.empty := fun _ => .inl rfl
theorem Drop.del {h h' : AHeap} {b : Nat} (d : Drop h h') : Drop h (h'.del b) := fun i => by
  by_cases e : i = b
  · subst e; exact .inl AHeap.del_same
  · rw [AHeap.del_ne e]; exact d i
/-- A block that is not in h' may be there before. -/
theorem Drop.upd {h h' : AHeap} {b : Nat} {c : Chunk} (d : Drop h h') (e : h' b = none) : Drop (h.upd b c) h' := fun i => by
  by_cases hi : i = b
  · subst hi; exact .inl e
  · rw [AHeap.upd_ne hi]; exact d i
theorem Drop.new {h h' : AHeap} {b : Nat} {c : Chunk} (d : Drop h h') (e : Fresh h' b) : Drop (h.upd b c) h' := d.upd e
theorem Drop.fresh {h h' : AHeap} {b : Nat} (d : Drop h h') (e : Fresh h b) : Fresh h' b := by
  unfold Fresh at *
  rcases d b with q | q
  · exact q
  · rw [q]; exact e
theorem Drop.both {h h' : AHeap} {b : Nat} {c : Chunk} (d : Drop h h') : Drop (h.upd b c) (h'.upd b c) := fun i => by
  by_cases hi : i = b
  · subst hi; simp
  · rw [AHeap.upd_ne hi, AHeap.upd_ne hi]; exact d i
theorem Drop.sub {h h' : AHeap} (d : Drop h h') (k : Nat) : SubH k h h' := fun b => by
  rcases d b with e | e
  · exact .inl e
  · exact .inr (.inl e)
section
variable {P : Program} {w : World} {h hf : AHeap} {t : AF} {a : Act} {N B : Nat} {b : Nat} {c : Chunk}

theorem AYield.frame {l : Nat} {args : List AV} {R : AV → AHeap → Prop} {h2 : AHeap} (c : AYield P l args h R) (D2 : Disj h h2) : AYield P l args (h.un h2) fun r h' => ∃ h1, h' = h1.un h2 ∧ Disj h1 h2 ∧ R r h1 := by
  intro hf w vs D Rl rs
  obtain ⟨D3, e⟩ := un_cases D D2
  rw [e] at Rl rs
  refine yieldAt_mono (c (h2.un hf) w vs D3 Rl rs) ?_
  rintro en w' ⟨v, r, h1, rfl, q, D1, R1, rv, s⟩
  have Da : Disj h1 h2 := fun b => by
    rcases D1 b with e | e
    · exact .inl e
    · exact .inr (AHeap.un_eq_none.1 e).1
  have Db : Disj h1 hf := fun b => by
    rcases D1 b with e | e
    · exact .inl e
    · exact .inr (AHeap.un_eq_none.1 e).2
  have e1 : (h1.un h2).un hf = h1.un (h2.un hf) := AHeap.un_assoc
  exact ⟨v, r, h1.un h2, rfl, ⟨h1, rfl, Da, q⟩, Disj.un_left Db D.of_un_right, by rw [e1]; exact R1, by rw [e1]; exact rv, ⟨by rw [e, e1]; exact s.ext, fun b hb => s.fr b fun hn => hb (AHeap.un_eq_none.1 hn).2⟩⟩

theorem ACallV.frame {fv : AV} {args : List AV} {R : AV → AHeap → Prop} {h2 : AHeap} (c : ACallV P fv args h R) (D2 : Disj h h2) : ACallV P fv args (h.un h2) fun r h' => ∃ h1, h' = h1.un h2 ∧ Disj h1 h2 ∧ R r h1 := by
  unfold ACallV at *
  split at c
  · exact ACalls.frame c D2
  · exact AYield.frame c D2
  · exact c.elim

theorem un_one {h : AHeap} (e : h b = none) : h.un (AHeap.empty.upd b c) = h.upd b c := by
  funext i
  by_cases hi : i = b
  · subst hi; simp [AHeap.un, AHeap.upd, e]
  · simp only [AHeap.un, AHeap.upd, if_neg hi, AHeap.empty_at]
    cases h i <;> rfl
theorem disj_one {h : AHeap} : Disj h (AHeap.empty.upd b c) ↔ h b = none := by
  constructor
  · intro d
    rcases d b with e | e
    · exact e
    · simp at e
  · intro e i
    by_cases hi : i = b
    · subst hi; exact .inl e
    · exact .inr (by rw [AHeap.upd_ne hi]; rfl)

/-- One block is not the callee's. -/
theorem ACallV.keep {fv : AV} {args : List AV} {R : AV → AHeap → Prop} (q : ACallV P fv args h R) (e : h b = none) : ACallV P fv args (h.upd b c) fun r h' => ∃ h1, h' = h1.upd b c ∧ h1 b = none ∧ R r h1 := by
  have := ACallV.frame q (disj_one (c := c).2 e)
  rw [un_one e] at this
  refine ACallV.mono this ?_
  rintro r h' ⟨h1, rfl, d, k⟩
  have e1 := disj_one.1 d
  exact ⟨h1, un_one e1, e1, k⟩
theorem ACalls.keep {f : FuncId} {args : List AV} {R : AV → AHeap → Prop} (q : ACalls P f args h R) (e : h b = none) : ACalls P f args (h.upd b c) fun r h' => ∃ h1, h' = h1.upd b c ∧ h1 b = none ∧ R r h1 :=
  ACallV.keep (fv := .fn (.func f) [] []) (by simpa using q) e |> fun q => by simpa using q

/-! ### The round -/
def putsA (t : AF) : List Nat → List AV → AF
  | p :: ps, a :: as => putsA (t.put p a) ps as
  | _, _ => t

theorem putsA_rep {g : AHeap} : ∀ (ps : List Nat) (as : List AV) (vs : List Value) (tmps : Array Value) (t : AF), RepF w g tmps t → RepL w g vs as → (∀ p ∈ ps, p < tmps.size) → ps.length = as.length →
    RepF w g (((ps.zip vs)).foldl (fun tmps (t, a) => tmps.setIfInBounds t a) tmps) (putsA t ps as) ∧ (((ps.zip vs)).foldl (fun tmps (t, a) => tmps.setIfInBounds t a) tmps).size = tmps.size
  | [], as, vs, tmps, t, F, rs, hp, hl => by
    cases as with
    | nil => exact ⟨F, rfl⟩
    | cons a as => simp at hl
  | p :: ps, as, vs, tmps, t, F, rs, hp, hl => by
    cases as with
    | nil => simp at hl
    | cons a as =>
      obtain ⟨v, vs', rfl, r1, r2⟩ := rs.uncons
      have F' := F.put (d := p) (hp p (by simp)) r1
      have := putsA_rep ps as vs' (tmps.setIfInBounds p v) (t.put p a) F' r2 (fun q hq => by simpa using hp q (by simp [hq])) (by simpa using hl)
      simpa [putsA] using this

/-- What a round leaves: it goes on, or a jump is pending. -/
def jumpOf : Exit → Option (Option Code)
  | .normal => some none
  | .ret => some (some .ret)
  | .exit id => some (some (.exit id))
  | _ => none
def recOf (r : Loop) (j : Option Code) : Loop := { r with state := if j.isNone then .ready else .done, pending := j }

theorem zip_fold (ps : Array Nat) (vs : List Value) (tmps : Array Value) : (ps.zip vs.toArray).foldl (fun tmps (t, a) => tmps.setIfInBounds t a) tmps = (ps.toList.zip vs).foldl (fun tmps (t, a) => tmps.setIfInBounds t a) tmps := by
  rw [← Array.foldl_toList]; simp [Array.toList_zip]

theorem rec_step {w w' : World} {h hf : AHeap} {l : Nat} {r r' : Loop} {t : AF} (D : Disj h ((AHeap.empty.upd l (.loop r t)).un hf)) (R : Rel w (h.un ((AHeap.empty.upd l (.loop r t)).un hf))) (hw : w' = w.putObj l (.loop r')) (ht : r'.tmps = r.tmps) (hfl : hf l = none) :
    Disj h ((AHeap.empty.upd l (.loop r' t)).un hf) ∧ Rel w' (h.un ((AHeap.empty.upd l (.loop r' t)).un hf)) ∧ Ext w (h.un ((AHeap.empty.upd l (.loop r t)).un hf)) w' (h.un ((AHeap.empty.upd l (.loop r' t)).un hf)) ∧ (∀ b, hf b ≠ none → w'.heap[b]? = w.heap[b]?) := by
  subst hw
  have hl : h l = none := by
    rcases D l with e | e
    · exact e
    · simp [AHeap.un_at] at e
  have e0 : (h.un ((AHeap.empty.upd l (.loop r t)).un hf)) l = some (.loop r t) := by rw [AHeap.un_none hl, AHeap.un_some (AHeap.upd_same)]
  have hob := R l _ e0
  have ho : w.heap[l]? = some (.loop r) := hob.1
  have hlt : l < w.heap.size := R.lt e0
  have eg : (h.un ((AHeap.empty.upd l (.loop r t)).un hf)).upd l (.loop r' t) = h.un ((AHeap.empty.upd l (.loop r' t)).un hf) := by
    funext i
    by_cases hi : i = l
    · subst hi; simp [AHeap.un_at, hl]
    · rw [AHeap.upd_ne hi]; simp [AHeap.un_at, hi]
  obtain ⟨x, R1⟩ := R.upd (c := .loop r' t) e0 (Only.putObj w l (.loop r')) (fun cs e fr hc => by rw [ho] at hc; cases hc)
    (fun x => ⟨World.putObj_heap_same hlt, fun i => by rw [ht]; exact (hob.2 i).ext x⟩)
  rw [eg] at x R1
  refine ⟨fun i => ?_, R1, x, fun b hb => World.putObj_heap_other fun e => hb (e ▸ hfl)⟩
  rcases D i with e | e
  · exact .inl e
  · by_cases hi : i = l
    · subst hi; exact .inl hl
    · refine .inr ?_
      simpa [AHeap.un_at, hi] using e

theorem ayield_of_AWP {l : Nat} {r : Loop} {args : List AV} {R : AV → AHeap → Prop} {h1 : AHeap} (hn : h1 l = none) (hr : r.state = .ready) (hN : r.tmps.size = N) (hps : ∀ p ∈ r.params.toList, p < N) (hl : r.params.size = args.length)
    (hw : AWP P (some l) N r.assign (thenA (AWP P (some l) N r.body (fun e _ h2 => match jumpOf e with
      | some j => ∃ h3, Drop h2 h3 ∧ (h3 l = none → R (.bool j.isNone) (h3.upd l (.loop (recOf r j) t)))
      | none => False)) (fun _ _ _ => False)) (putsA t r.params.toList args) h1) :
    AYield P l args (h1.upd l (.loop r t)) R := by
  intro hf w vs D Rl rs
  have hfl : hf l = none := D.none_right AHeap.upd_same
  have eg : ∀ (h : AHeap) (c : Chunk), h l = none → (h.upd l c).un hf = h.un ((AHeap.empty.upd l c).un hf) := fun h c e => by
    rw [← un_one e, AHeap.un_assoc]
  have Dn : Disj h1 ((AHeap.empty.upd l (.loop r t)).un hf) := Disj.un_right (disj_one.2 hn) (fun i => by
    by_cases hi : i = l
    · subst hi; exact .inl hn
    · rcases D i with e | e
      · rw [AHeap.upd_ne hi] at e; exact .inl e
      · exact .inr e)
  have hc := Rl l (.loop r t) (AHeap.un_some AHeap.upd_same)
  obtain ⟨ho, hF⟩ := hc
  rw [eg h1 _ hn] at Rl rs hF
  have hsz : vs.toArray.size = r.params.size := by have := rs.1; simp; omega
  refine ⟨r.fn, _, r.assign, r.body, run_yield ho hsz, roundIn_of_wpIn trivial ?_⟩
  rw [zip_fold]
  obtain ⟨F1, F2⟩ := putsA_rep r.params.toList args vs r.tmps t hF rs (by rw [hN]; exact hps) (by simpa using hl)
  have G0 : Good w h1 ((AHeap.empty.upd l (.loop r t)).un hf) { tmps := (r.params.toList.zip vs).foldl (fun tmps (t, a) => tmps.setIfInBounds t a) r.tmps, defers := [] } (putsA t r.params.toList args) N w.heap.size :=
    ⟨Dn, Rl, F1, by simpa using F2.trans hN, ⟨[], rfl, List.nodup_nil, fun r hr => absurd hr (by simp)⟩, Nat.le_refl _⟩
  refine wpIn_mono (hw _ _ _ _ G0) ?_
  intro e a1 w1 T
  obtain ⟨t1, h1', k, G1, s1⟩ := T
  cases e <;> first | exact k.elim | skip
  simp only [thenA_normal] at k
  have ho1 : w1.heap[l]? = some (.loop r) := (s1.fr l (by simp [AHeap.un_at])).trans ho
  obtain ⟨D2, R2, x2, f2⟩ := rec_step (w' := w1.putObj l (.loop { r with state := .busy })) (r' := { r with state := .busy }) G1.disj G1.rel rfl rfl hfl
  have s2 : Stp w1 h1' hf (w1.putObj l (.loop { r with state := .busy })) h1' → True := fun _ => trivial
  clear s2
  have G2 : Good (w1.putObj l (.loop { r with state := .busy })) h1' ((AHeap.empty.upd l (.loop { r with state := .busy } t)).un hf) a1 t1 N w.heap.size :=
    ⟨D2, R2, G1.frame.ext x2, G1.size, G1.defers.ext x2, Nat.le_trans G1.base x2.size⟩
  refine ⟨_, run_beginRound ho1 hr, wpIn_mono (k _ _ _ _ G2) ?_⟩
  intro e a2 w3 T
  obtain ⟨t3, h3', k3', G3', s3'⟩ := T
  have hob : ∀ (h3 : AHeap) (_ : Drop h3' h3), Good w3 h3 ((AHeap.empty.upd l (.loop { r with state := .busy } t)).un hf) a2 t3 N w.heap.size ∧ Stp (w1.putObj l (.loop { r with state := .busy })) h1' ((AHeap.empty.upd l (.loop { r with state := .busy } t)).un hf) w3 h3 :=
    fun h3 d => ⟨G3'.turn (d.sub 0) (fun _ => .inl rfl), s3'.trans ((d.sub 0).stp G3'.disj)⟩
  -- the record, as the round leaves it
  have ho3 : w3.heap[l]? = some (.loop { r with state := .busy }) := by
    rw [s3'.fr l (by simp [AHeap.un_at])]
    exact World.putObj_heap_same (Array.getElem?_eq_some_iff.1 ho1).1
  have fin : ∀ j, (∃ h3, Drop h3' h3 ∧ (h3 l = none → R (.bool j.isNone) (h3.upd l (.loop (recOf r j) t)))) → RetTo w (h1.upd l (.loop r t)) hf R (.returned (.bool j.isNone)) (w3.putObj l (.loop { { r with state := .busy } with state := if j.isNone then .ready else .done, pending := j })) := by
    rintro j ⟨h3, hd, hR⟩
    obtain ⟨G3, s3⟩ := hob h3 hd
    have h3l : h3 l = none := by
      rcases G3.disj l with e | e
      · exact e
      · simp [AHeap.un_at] at e
    obtain ⟨D4, R4, x4, f4⟩ := rec_step (w' := w3.putObj l (.loop (recOf r j))) (r' := recOf r j) G3.disj G3.rel rfl rfl hfl
    have D5 : Disj (h3.upd l (.loop (recOf r j) t)) hf := Disj.upd (fun i => by
      rcases D4 i with e | e
      · exact .inl e
      · exact .inr (AHeap.un_eq_none.1 e).2) hfl
    refine ⟨_, .bool j.isNone, h3.upd l (.loop (recOf r j) t), rfl, hR h3l, D5, by rw [eg h3 _ h3l]; exact R4, .bool _, ⟨?_, fun b hb => ?_⟩⟩
    · rw [eg h3 _ h3l, eg h1 _ hn]
      exact ((s1.ext.trans x2).trans s3.ext).trans x4
    · have hbl : (AHeap.empty.upd l (.loop r t)).un hf b ≠ none := by
        simp only [AHeap.un_at]
        by_cases hi : b = l
        · subst hi; simp
        · rw [AHeap.upd_ne hi]; exact hb
      have hbl2 : (AHeap.empty.upd l (.loop { r with state := .busy } t)).un hf b ≠ none := by
        simp only [AHeap.un_at]
        by_cases hi : b = l
        · subst hi; simp
        · rw [AHeap.upd_ne hi]; exact hb
      exact (((f4 b hb).trans (s3.fr b hbl2)).trans (f2 b hb)).trans (s1.fr b hbl)
  cases e with
  | normal => exact ⟨_, _, run_endRound none ho3, fin none k3'⟩
  | ret => exact ⟨_, _, run_endRound (some .ret) ho3, fin (some .ret) k3'⟩
  | exit id => exact ⟨_, _, run_endRound (some (.exit id)) ho3, fin (some (.exit id)) k3'⟩
  | goto l => exact k3'.elim
  | panic c => exact k3'.elim
  | outgrown => exact k3'.elim

theorem ayield_of {l : Nat} {r : Loop} {args : List AV} {R : AV → AHeap → Prop} {h1 : AHeap} (hn : h1 l = none) (hr : r.state = .ready) (hN : r.tmps.size = N) (hps : ∀ p ∈ r.params.toList, p < N) (hl : r.params.size = args.length)
    (hk1 : codeOk N r.assign = true) (hk2 : codeOk N r.body = true)
    (hw : awp P (some l) N r.assign (thenA (awp P (some l) N r.body (fun e _ h2 => match jumpOf e with
      | some j => ∃ h3, Drop h2 h3 ∧ (h3 l = none → R (.bool j.isNone) (h3.upd l (.loop (recOf r j) t)))
      | none => False)) (fun _ _ _ => False)) (putsA t r.params.toList args) h1) :
    AYield P l args (h1.upd l (.loop r t)) R :=
  ayield_of_AWP hn hr hN hps hl (AWP.mono (awp_sound r.assign _ _ _ hk1 hw) fun e t' h' q => by
    cases e <;> first | exact q | skip
    simp only [thenA_normal] at q ⊢
    exact awp_sound r.body _ _ _ hk2 q)

/-- What follows a loop over a function. -/
def afterA (Q : Exit → AF → AHeap → Prop) (t : AF) (h : AHeap) : Option Code → Prop
  | none => Q .normal t h
  | some .ret => Q .ret t h
  | some (.exit id) => Q (.exit id) t h
  | _ => False

theorem awp_rangeF {g : Operand} {ps : Array Tmp} {as b : Code} {Q : Exit → AF → AHeap → Prop} {f : FuncId} {first caps : List AV} (hg : evalA t g = .fn (.func f) first caps)
    (hcall : ∀ (l : Nat) (r : Loop), h l = none → r.state = .ready → r.pending = none → r.tmps.size = N → r.params = ps → r.assign = as → r.body = b →
      ACalls P f (first ++ [.fn (.yield l) [] []] ++ caps) (h.upd l (.loop r t)) fun _ h' => ∃ h1 j, h' = h1.upd l (.loop (recOf r j) t) ∧ h1 l = none ∧ afterA Q t h1 j) : AWP P none N (.rangeFunc g ps as b) Q t h := by
  intro hf B w a G
  refine wpIn_rangeFunc fun fn _ => ?_
  let r : Loop := { state := .ready, pending := none, fn, tmps := a.tmps, params := ps, assign := as, body := b, defers := w.heap.size }
  have he := run_enterLoop_outer (P := P) (w := w) fn a.tmps ps as b
  -- the block for deferred calls
  have xa : Ext w (h.un hf) (w.alloc (.deferred (some []))) (h.un hf) := .alloc _ fun _ _ => rfl
  have Ra : Rel (w.alloc (.deferred (some []))) (h.un hf) := G.rel.step xa fun i c e => by
    have := G.rel.lt e
    refine .inl ⟨e, ?_⟩
    exact alloc_old w _ i this
  have hl0 : (w.alloc (.deferred (some []))).heap.size = w.heap.size + 1 := by simp
  obtain ⟨f1, f2⟩ := fresh_both (h := h) (hf := hf) Ra
  rw [hl0] at f1 f2
  obtain ⟨xb, Rb⟩ := Rel.alloc (w := w.alloc (.deferred (some []))) (g := h.un hf) (o := .loop r) (c := .loop r t) Ra (fun x => ⟨alloc_at _ _, fun i => (G.frame i).ext (xa.trans x)⟩)
  rw [hl0, ← AHeap.un_upd] at xb Rb
  have D1 : Disj (h.upd (w.heap.size + 1) (.loop r t)) hf := G.disj.upd f2
  have hx : Ext w (h.un hf) ((w.alloc (.deferred (some []))).alloc (.loop r)) ((h.upd (w.heap.size + 1) (.loop r t)).un hf) := xa.trans xb
  have hev : Rep ((w.alloc (.deferred (some []))).alloc (.loop r)) ((h.upd (w.heap.size + 1) (.loop r t)).un hf) (a.eval g) (evalA t g) := (G.eval g).ext hx
  obtain ⟨hc, hcalls⟩ := hcall (w.heap.size + 1) r f1 rfl rfl G.size rfl rfl rfl
  rw [hg] at hev
  obtain ⟨fi, ca, hv, r1, r2⟩ := hev.inv_fn
  have ry : RepL ((w.alloc (.deferred (some []))).alloc (.loop r)) ((h.upd (w.heap.size + 1) (.loop r t)).un hf) [.func (.yield (w.heap.size + 1)) #[] #[]] [.fn (.yield (w.heap.size + 1)) [] []] :=
    .cons (.fn (first := []) (caps := []) rfl rfl (fun i hi => absurd hi (by simp)) (fun i hi => absurd hi (by simp))) .nil
  have hvs := (r1.append ry).append r2
  refine ⟨w.heap.size + 1, _, _, { target := .fn (.func f) ca.toArray, args := fi.toArray ++ #[Value.func (.yield (w.heap.size + 1)) #[] #[]] }, (w.alloc (.deferred (some []))).alloc (.loop r), f, (fi ++ [Value.func (.yield (w.heap.size + 1)) #[] #[]] ++ ca).toArray, (w.alloc (.deferred (some []))).alloc (.loop r), he, ?_, fun _ _ => trivial, ?_, fun hx => by simp [fence, Fence.wide] at hx, ?_⟩
  · simp only [resolve, rangeCall, hv, Deferred.ofValue, Sem.run_pure]
    rw [show Array.map a.eval #[Operand.const (.func (.yield (w.heap.size + 1)) #[] #[])] = #[Value.func (.yield (w.heap.size + 1)) #[] #[]] from by simp [Act.eval]]
  · simp only [invoke]
    rw [show (fi.toArray ++ #[Value.func (.yield (w.heap.size + 1)) #[] #[]] ++ ca.toArray) = (fi ++ [Value.func (.yield (w.heap.size + 1)) #[] #[]] ++ ca).toArray from by simp]
    exact hc _ _
  · refine CallsIn.mono (hcalls hf _ _ D1 Rb hvs) ?_
    rintro en w3 ⟨v, rv, h', rfl, ⟨h1, j, rfl, h1l, hQ⟩, D3, R3, rv3, s3⟩
    have e0 : ((h1.upd (w.heap.size + 1) (.loop (recOf r j) t)).un hf) (w.heap.size + 1) = some (.loop (recOf r j) t) := AHeap.un_some AHeap.upd_same
    have ho := (R3 _ _ e0).1
    have hns : (recOf r j).state ≠ .busy := by unfold recOf; cases j <;> simp
    refine ⟨_, _, run_endLoop ho hns, ?_⟩
    -- the record is given up
    have lt1 : w.heap.size < (w.alloc (.deferred (some []))).heap.size := by rw [hl0]; omega
    have n1 : (h.un hf) w.heap.size = none := G.rel.fresh
    obtain ⟨k1, k2⟩ := xb.keep _ lt1 n1
    have lt2 := Nat.lt_of_lt_of_le lt1 xb.size
    obtain ⟨k3, k4⟩ := s3.ext.keep _ lt2 k1
    have lt3 := Nat.lt_of_lt_of_le lt2 s3.ext.size
    have sb : SubH 0 (h1.upd (w.heap.size + 1) (.loop { recOf r j with state := .exhausted } t)) h1 := fun i => by
      by_cases hi : i = w.heap.size + 1
      · subst hi; exact .inl h1l
      · exact .inr (.inl (by rw [AHeap.upd_ne hi]))
    have hF3 := (R3 _ _ e0).2
    obtain ⟨x4, R4⟩ := R3.upd (c := .loop { recOf r j with state := .exhausted } t) e0 (Only.putObj w3 (w.heap.size + 1) (.loop { recOf r j with state := .exhausted })) (fun cs e fr hc => by rw [ho] at hc; cases hc)
      (fun x => ⟨World.putObj_heap_same (R3.lt e0), fun i => (hF3 i).ext x⟩)
    rw [← AHeap.un_upd, AHeap.upd_upd] at x4 R4
    have D4 : Disj (h1.upd (w.heap.size + 1) (.loop { recOf r j with state := .exhausted } t)) hf := fun i => by
      by_cases hi : i = w.heap.size + 1
      · subst hi; exact .inr f2
      · rcases D3 i with e | e
        · exact .inl (by rw [AHeap.upd_ne hi] at e ⊢; exact e)
        · exact .inr e
    have x5 := sb.ext (w := w3.putObj (w.heap.size + 1) (.loop { recOf r j with state := .exhausted })) D4
    have D5 := sb.disj D4
    have R5 := sb.rel R4 D4
    obtain ⟨k5, k6⟩ := x4.keep _ lt3 k3
    have lt4 := Nat.lt_of_lt_of_le lt3 x4.size
    obtain ⟨k7, k8⟩ := x5.keep _ lt4 k5
    have hx5 := ((hx.trans s3.ext).trans x4).trans x5
    have S5 : Stp w h hf (w3.putObj (w.heap.size + 1) (.loop { recOf r j with state := .exhausted })) h1 := ⟨hx5, fun b hb => by
      have hb1 : b ≠ w.heap.size + 1 := fun e => hb (e ▸ f2)
      rw [World.putObj_heap_other hb1, s3.fr b hb]
      have hbl : b < w.heap.size := by
        cases hc : hf b with
        | none => exact absurd hc hb
        | some c => exact G.rel.lt (by rw [G.disj.un_comm]; exact AHeap.un_some hc)
      have e1 := alloc_old (w.alloc (.deferred (some []))) (.loop r) b (by rw [hl0]; omega)
      exact e1.trans (alloc_old w _ b hbl)⟩
    have hdef : (w3.putObj (w.heap.size + 1) (.loop { recOf r j with state := .exhausted })).heap[w.heap.size]? = some (.deferred (some [])) :=
      (k6.trans k4).trans (k2.trans (alloc_at w _))
    have G5 : Good (w3.putObj (w.heap.size + 1) (.loop { recOf r j with state := .exhausted })) h1 hf { a with defers := [{ target := .collected w.heap.size, args := #[] }] ++ a.defers } t N B := by
      refine ⟨D5, R5, G.frame.ext hx5, G.size, ?_, Nat.le_trans G.base hx5.size⟩
      obtain ⟨rs, d1, d2, d3⟩ := G.defers
      refine ⟨w.heap.size :: rs, by simp [d1], List.nodup_cons.2 ⟨fun hm => absurd (d3 _ hm).2.1 (Nat.lt_irrefl _), d2⟩, fun q hq => ?_⟩
      rcases List.mem_cons.1 hq with rfl | hq
      · exact ⟨G.base, Nat.lt_of_lt_of_le lt4 (Nat.le_refl _), k7, hdef⟩
      · obtain ⟨p1, p2, p3, p4⟩ := d3 q hq
        obtain ⟨e1, e2⟩ := hx5.keep q p2 p3
        exact ⟨p1, Nat.lt_of_lt_of_le p2 hx5.size, e1, e2.trans p4⟩
    have hj : (recOf r j).pending = j := rfl
    rw [hj]
    cases j with
    | none => exact ⟨t, h1, hQ, G5, S5⟩
    | some c =>
      cases c <;> first | exact hQ.elim | skip
      · exact wpIn_exit ⟨t, h1, hQ, G5, S5⟩
      · exact wpIn_ret ⟨t, h1, hQ, G5, S5⟩

/-! ### Iterators -/
def runIt {γ α : Type} (step : γ → α → γ) (go : γ → Bool) : γ → List α → γ
  | g, [] => g
  | g, a :: L => if go (step g a) then runIt step go (step g a) L else step g a

/-- The function hands over the items of L, in order, as long as it is told to go on; fin: there are no others. -/
def Iter (P : Program) (fv : AV) {α : Type} (enc : α → List AV) (L : List α) (fin : Bool) : Prop :=
  ∀ (γ : Type) (I : γ → AHeap → Prop) (step : γ → α → γ) (go : γ → Bool) (y : AV) (g0 : γ) (h0 : AHeap), go g0 = true → I g0 h0 → (fin = true ∨ go (runIt step go g0 L) = false) →
    (∀ i g a h, L[i]? = some a → g = (L.take i).foldl step g0 → go g = true → I g h → ACallV P y (enc a) h fun r h' => r = .bool (go (step g a)) ∧ I (step g a) h') →
    ACallV P fv [y] h0 fun _ h' => I (runIt step go g0 L) h'

theorem ACalls.funcs {f : FuncId} {first caps args : List AV} {R : AV → AHeap → Prop} (q : ACallV P (.fn (.func f) first caps) args h R) : ACalls P f (first ++ args ++ caps) h R := q

theorem awp_iter {g : Operand} {ps : Array Tmp} {as b : Code} {Q : Exit → AF → AHeap → Prop} {f : FuncId} {first caps : List AV} {α : Type} {enc : α → List AV} {L : List α} {fin : Bool}
    (hg : evalA t g = .fn (.func f) first caps) (it : Iter P (.fn (.func f) first caps) enc L fin) {γ : Type} (J : γ → AHeap → Prop) (step : γ → α → γ) (jump : γ → Option Exit) (g0 : γ) (hj0 : jump g0 = none) (h0 : J g0 h)
    (hk1 : codeOk N as = true) (hk2 : codeOk N b = true) (hps : ∀ p ∈ ps.toList, p < N) (hlen : ∀ a ∈ L, ps.size = (enc a).length)
    (hfin : fin = true ∨ (jump (runIt step (fun g => (jump g).isNone) g0 L)).isNone = false)
    (body : ∀ l i g a h, L[i]? = some a → g = (L.take i).foldl step g0 → jump g = none → J g h → awp P (some l) N as (thenA (awp P (some l) N b (fun e _ h2 => e = (jump (step g a)).getD .normal ∧ ∃ h3, Drop h2 h3 ∧ J (step g a) h3)) (fun _ _ _ => False)) (putsA t ps.toList (enc a)) h)
    (hjump : ∀ g e, jump g = some e → e = .ret ∨ ∃ id, e = .exit id)
    (after : ∀ h', J (runIt step (fun g => (jump g).isNone) g0 L) h' → Q ((jump (runIt step (fun g => (jump g).isNone) g0 L)).getD .normal) t h') : AWP P none N (.rangeFunc g ps as b) Q t h := by
  have jc : ∀ g, ∃ j, jumpOf ((jump g).getD .normal) = some j ∧ j.isNone = (jump g).isNone ∧ ∀ Q h, Q ((jump g).getD .normal) t h → afterA Q t h j := by
    intro g
    cases hj : jump g with
    | none => exact ⟨none, rfl, rfl, fun Q h q => q⟩
    | some e =>
      rcases hjump g e hj with rfl | ⟨id, rfl⟩
      · exact ⟨some .ret, rfl, rfl, fun Q h q => q⟩
      · exact ⟨some (.exit id), rfl, rfl, fun Q h q => q⟩
  refine awp_rangeF hg fun l r hl hr hp hN e1 e2 e3 => ?_
  have hp' : recOf r none = r := by
    cases r; simp only at hr hp; subst hr; subst hp; rfl
  refine ACalls.mono (ACalls.funcs (it γ (fun g h' => ∃ h1 j, h' = h1.upd l (.loop (recOf r j) t) ∧ h1 l = none ∧ J g h1 ∧ jumpOf ((jump g).getD .normal) = some j) step (fun g => (jump g).isNone) (.fn (.yield l) [] []) g0 _ (by simp [hj0]) ⟨h, none, by rw [hp'], hl, h0, by simp [hj0, jumpOf]⟩ hfin ?_)) ?_
  · rintro i g a h' ha hgi hgo ⟨h1, j, rfl, h1l, hJ, hj⟩
    have hjn : jump g = none := by simpa using hgo
    rw [hjn] at hj
    simp only [Option.getD_none, jumpOf, Option.some.injEq] at hj
    subst hj
    rw [hp', ACallV_yield]
    refine ayield_of h1l hr hN (by rw [e1]; exact hps) (by rw [e1]; exact hlen a (List.mem_of_getElem? ha)) (by rw [e2]; exact hk1) (by rw [e3]; exact hk2) ?_
    rw [e1, e2, e3]
    refine awp_mono _ _ _ _ _ (fun e t' h' q => ?_) (body l i g a h1 ha hgi hjn hJ)
    cases e <;> first | exact q | skip
    simp only [thenA_normal] at q ⊢
    refine awp_mono _ _ _ _ _ (fun e t2 h2 q => ?_) q
    obtain ⟨rfl, h3, hd, q⟩ := q
    obtain ⟨j, j1, j2, j3⟩ := jc (step g a)
    rw [j1]
    exact ⟨h3, hd, fun h2l => ⟨by rw [j2], h3, j, rfl, h2l, q, rfl⟩⟩
  · rintro r' h' ⟨h1, j, rfl, h1l, hJ, hj⟩
    obtain ⟨j', j1, j2, j3⟩ := jc (runIt step (fun g => (jump g).isNone) g0 L)
    rw [hj] at j1; cases j1
    exact ⟨h1, j, rfl, h1l, j3 _ _ (after _ hJ)⟩
end
end Go.AH

end

section
/-
  What walks over this program's functions have in common: the regions that draw, as rewrite rules; numbers; values handed back.
-/
namespace Go.AH
open Go

section
variable {P : Program} {Γ : Gam} {fl : List Nat} {ops : Array Oper} {K : AF → AHeap → Prop} {t t' : AF} {h h' : AHeap} {d : Option Nat} {op : Op} {ty : TypeId} {pos : String} {af : Array Edge}

@[simp] theorem awpOpsG_nil : awpOpsG P Γ fl ops K [] t h = K t h := nrfl rfl
@[simp] theorem awpOpsG_cons {o : Oper} {os : List Oper} : awpOpsG P Γ fl ops K (o :: os) t h = stepW P Γ fl ops o (awpOpsG P Γ fl ops K os) t h := nrfl rfl
@[simp] theorem stepW_plain : stepW P Γ fl ops { dst := d, op := op, type := ty, pos := pos, after := af, guard := none } K t h = stepG P Γ fl { dst := d, op := op, type := ty, pos := pos, after := af, guard := none } K t h := nrfl rfl
@[simp] theorem stepW_guard {j : Nat} {want : Bool} : stepW P Γ fl ops { dst := d, op := op, type := ty, pos := pos, after := af, guard := some (j, want) } K t h =
    onSome ((ops[j]?).bind (·.dst)) fun g => guardA (t g) want (stepG P Γ fl { dst := d, op := op, type := ty, pos := pos, after := af, guard := some (j, want) } K t h) (K (t.putO d (.tup [])) h) := by
  simp only [stepW, wantedA]
  cases (ops[j]?).bind (·.dst) with
  | none => rfl
  | some g =>
    simp only [onSome_some]
    cases t g <;> try simp [guardA]
    · rename_i b
      cases b <;> cases want <;> simp
    · rename_i vs
      cases vs <;> simp
@[simp] theorem flag_some {i : Nat} {g : Option (Nat × Bool)} : flag fl { dst := some i, op := op, type := ty, pos := pos, after := af, guard := g } = fl.contains i := nrfl rfl
@[simp] theorem flag_none {g : Option (Nat × Bool)} : flag fl { dst := none, op := op, type := ty, pos := pos, after := af, guard := g } = false := nrfl rfl
@[simp] theorem stepG_flag {g : Option (Nat × Bool)} : stepG P Γ fl { dst := d, op := op, type := ty, pos := pos, after := af, guard := g } K t h =
    if flag fl { dst := d, op := op, type := ty, pos := pos, after := af, guard := g } = true then onSome (valG P Γ t op) fun v => K (t.putO d v) h
    else opStep P { dst := d, op := op, type := ty, pos := pos, after := af, guard := g } K t h := nrfl rfl
@[simp] theorem valG_call {f : Operand} {args : Array Operand} {ats : Array TypeId} : valG P Γ t (.call { callee := .value f, args := args, argTypes := ats }) = gamGet Γ (evalA t f) (args.toList.map (evalA t)) := nrfl rfl
@[simp] theorem valG_load {lt : TypeId} {x : Operand} : valG P Γ t (.load lt x) = frozenA P lt (evalA t x) := nrfl rfl
attribute [simp] gamGet_cons gamGet_nil
theorem stepW_bar {o : Oper} (e : keep t = t') (e' : h = h') : stepW P Γ fl ops o K t h = stepW P Γ fl ops o K t' h' := by rw [← e, e', keep_eq]
theorem stepG_bar {o : Oper} (e : keep t = t') (e' : h = h') : stepG P Γ fl o K t h = stepG P Γ fl o K t' h' := by rw [← e, e', keep_eq]
theorem awpOpsG_bar {os : List Oper} (e : keep t = t') (e' : h = h') : awpOpsG P Γ fl ops K os t h = awpOpsG P Γ fl ops K os t' h' := by rw [← e, e', keep_eq]
@[simp] theorem Gam.ok_nil : Gam.ok P [] = True := nrfl rfl
@[simp] theorem Gam.ok_cons {e : AV × List AV × AV} : Gam.ok P (e :: Γ) = (PureV P e.1 e.2.1 e.2.2 ∧ Gam.ok P Γ) := nrfl rfl

theorem opersOf_range (ops : Array Oper) : opersOf ops (List.range ops.size) = ops.toList := by
  unfold opersOf
  have := congrArg (List.filterMap id) (range_map ops)
  simpa [List.filterMap_map] using this
/-- A region that draws: the order of the text serves. -/
theorem awp_draw_text {N : Nat} {ro : Option Nat} {id : Nat} {Q : Exit → AF → AHeap → Prop} {l : List Oper} (hm : P.follows .mixedOrders = true) (fl : List Nat) (Γ : Gam) (hk : opsOk N l.toArray = true) (ho : drawOk P l.toArray fl (List.range l.toArray.size) = true) (hΓ : Γ.ok P)
    (e : awpOpsG P Γ fl l.toArray (Q .normal) l t h) : AWP P ro N (.region id l.toArray true) Q t h :=
  awp_draws hm fl _ Γ hk ho hΓ (by rw [opersOf_range]; exact e)

theorem PureV.func {f : FuncId} {first caps args : List AV} {r : AV} (c : Pure P f (first ++ args ++ caps) r) : PureV P (.fn (.func f) first caps) args r := fun h => c h
theorem PureV.of {f : FuncId} {args : List AV} {r : AV} (c : Pure P f args r) : PureV P (.fn (.func f) [] []) args r := fun h => by simpa using c h
theorem PureV.use {fv : AV} {args : List AV} {r : AV} {R : AV → AHeap → Prop} (c : PureV P fv args r) (k : R r h) : ACallV P fv args h R := ACallV.mono (c h) fun r' h' ⟨e1, e2⟩ => by subst e1; subst e2; exact k
/-- A call that hands back r and turns nothing of what is owned here. -/
theorem ACalls.use {f : FuncId} {args : List AV} {r : AV} {R : AV → AHeap → Prop} (c : ACalls P f args h fun r' h' => r' = r ∧ h' = h) (k : R r h) : ACalls P f args h R := ACalls.mono c fun r' h' ⟨e1, e2⟩ => by subst e1; subst e2; exact k
theorem ACallV.use {fv : AV} {args : List AV} {r : AV} {R : AV → AHeap → Prop} (c : ACallV P fv args h fun r' h' => r' = r ∧ h' = h) (k : R r h) : ACallV P fv args h R := ACallV.mono c fun r' h' ⟨e1, e2⟩ => by subst e1; subst e2; exact k
end

/-! ### A call that turns nothing turns nothing beside more -/
theorem le_un {h h2 : AHeap} (x : HLe h h2) : ∃ hd, Disj h hd ∧ h.un hd = h2 := by
  refine ⟨fun b => match h b with | some _ => none | none => h2 b, fun b => ?_, ?_⟩
  · cases e : h b with
    | none => exact .inl rfl
    | some c => right; simp [e]
  · funext b
    simp only [AHeap.un]
    cases e : h b with
    | none => rfl
    | some c => exact (x b c e).symm
theorem ACallV.le {P : Program} {fv : AV} {args : List AV} {r : AV} {h h2 : AHeap} (c : ACallV P fv args h fun r' h' => r' = r ∧ h' = h) (x : HLe h h2) : ACallV P fv args h2 fun r' h' => r' = r ∧ h' = h2 := by
  obtain ⟨hd, D, rfl⟩ := le_un x
  refine ACallV.mono (ACallV.frame c D) ?_
  rintro r' h' ⟨h1, rfl, _, rfl, rfl⟩
  exact ⟨rfl, rfl⟩
theorem ACalls.le {P : Program} {f : FuncId} {args : List AV} {r : AV} {h h2 : AHeap} (c : ACalls P f args h fun r' h' => r' = r ∧ h' = h) (x : HLe h h2) : ACalls P f args h2 fun r' h' => r' = r ∧ h' = h2 := by
  obtain ⟨hd, D, rfl⟩ := le_un x
  refine ACalls.mono (ACalls.frame c D) ?_
  rintro r' h' ⟨h1, rfl, _, rfl, rfl⟩
  exact ⟨rfl, rfl⟩
theorem HLe.refl (h : AHeap) : HLe h h := fun _ _ e => e
theorem HLe.trans {h h1 h2 : AHeap} (x : HLe h h1) (y : HLe h1 h2) : HLe h h2 := fun b c e => y b c (x b c e)
theorem HLe.new {h h1 : AHeap} {b : Nat} {c : Chunk} (x : HLe h h1) (e : Fresh h b) : HLe h (h1.upd b c) := fun i d hd => by
  have : i ≠ b := fun e' => by unfold Fresh at e; rw [e', e] at hd; cases hd
  rw [AHeap.upd_ne this]; exact x i d hd
theorem HLe.del {h h1 : AHeap} {b : Nat} (x : HLe h h1) (e : Fresh h b) : HLe h (h1.del b) := fun i d hd => by
  have : i ≠ b := fun e' => by unfold Fresh at e; rw [e', e] at hd; cases hd
  rw [AHeap.del_ne this]; exact x i d hd
theorem HLe.fresh {h h1 : AHeap} {b : Nat} (x : HLe h h1) (e : Fresh h1 b) : Fresh h b := by
  unfold Fresh at *
  cases hb : h b with
  | none => rfl
  | some c => rw [x b c hb] at e; cases e
theorem HLe.drop {h h1 : AHeap} (x : HLe h h1) : ∀ b, h b = none ∨ h b = h1 b := fun b => by
  cases hb : h b with
  | none => exact .inl rfl
  | some c => exact .inr (x b c hb).symm
theorem HLe.cells {h h1 : AHeap} (x : HLe h h1) {b off : Nat} {cs : List AV} (e : cellsAt h b off = some cs) : cellsAt h1 b off = some cs := by
  unfold cellsAt at *
  cases hb : h b with
  | none => rw [hb] at e; cases e
  | some c => rw [hb] at e; rw [x b c hb]; exact e
@[simp] theorem cellsAt_del {h : AHeap} {b b' off : Nat} : cellsAt (h.del b) b' off = if b' = b then none else cellsAt h b' off := by
  unfold cellsAt; by_cases e : b' = b <;> simp [AHeap.del, e]
@[simp] theorem mapAt_del {h : AHeap} {b b' : Nat} : mapAt (h.del b) (.map b') = if b' = b then none else mapAt h (.map b') := by
  unfold mapAt; by_cases e : b' = b <;> simp [AHeap.del, e]
@[simp] theorem fresh_del {h : AHeap} {b b' : Nat} : Fresh (h.del b) b' = (b' = b ∨ Fresh h b') := by
  unfold Fresh; by_cases e : b' = b <;> simp [AHeap.del, e]
theorem ne_map {h : AHeap} {b r : Nat} {q : Nat × KShape × List (AV × AV)} (e : mapAt h (.map b) = some q) (f : Fresh h r) : ¬ b = r ∧ ¬ r = b := by
  constructor
  · rintro rfl; unfold Fresh at f; simp [mapAt, f] at e
  · rintro rfl; unfold Fresh at f; simp [mapAt, f] at e
theorem ne_cells_map {h : AHeap} {b r off : Nat} {cs : List AV} {q : Nat × KShape × List (AV × AV)} (e : cellsAt h b off = some cs) (e' : mapAt h (.map r) = some q) : ¬ b = r ∧ ¬ r = b := by
  constructor
  · rintro rfl
    cases hb : h b with
    | none => simp [cellsAt, hb] at e
    | some c => cases c <;> simp [cellsAt, mapAt, hb] at e e'
  · rintro rfl
    cases hb : h r with
    | none => simp [cellsAt, hb] at e
    | some c => cases c <;> simp [cellsAt, mapAt, hb] at e e'
theorem HLe.newO {h h1 : AHeap} {o : Option Nat} {cs : List AV} (x : HLe h h1) (e : ∀ b, o = some b → Fresh h b) : HLe h (match o with | none => h1 | some b => h1.upd b (.cells cs)) := by
  cases o with
  | none => exact x
  | some b => exact x.new (e b rfl)

theorem upd_comm3 {h : AHeap} {b b' b2 : Nat} {c c' c2 : Chunk} (e : ¬ b = b') : ((h.upd b c).upd b' c').upd b2 c2 = ((h.upd b' c').upd b c).upd b2 c2 := by rw [AHeap.upd_comm e]

/-! ### Blocks are given up -/
theorem turnA_drop {K : AF → AHeap → Prop} {t : AF} {h : AHeap} (b : Nat) (q : K t (h.del b)) : turnA K t h := ⟨0, h.del b, t, SubH.del 0 h b, fun _ => .inl rfl, q⟩
theorem turnA_to {K : AF → AHeap → Prop} {t : AF} {h : AHeap} (h' : AHeap) (d : Drop h h') (q : K t h') : turnA K t h := ⟨0, h', t, d.sub 0, fun _ => .inl rfl, q⟩
/-- Slots turn, too: k is how deep. -/
theorem turnA_frz {K : AF → AHeap → Prop} {t : AF} {h : AHeap} (k : Nat) (h' : AHeap) (t' : AF) (d : Drop h h') (ht : TurnF k h h' t t') (q : K t' h') : turnA K t h := ⟨k, h', t', d.sub k, ht, q⟩
theorem finA_to {R : AV → AHeap → Prop} {r : AV} {h : AHeap} (k : Nat) (h' : AHeap) (d : Drop h h') (q : R (frzF k h h' r) h') : finA R r h := ⟨k, h', _, d.sub k, .inr rfl, q⟩
theorem finA_same {R : AV → AHeap → Prop} {r : AV} {h : AHeap} (h' : AHeap) (d : Drop h h') (q : R r h') : finA R r h := ⟨0, h', r, d.sub 0, .inl rfl, q⟩

/-! ### Numbers -/
theorem wrap_i64 {x : Int} (h1 : -9223372036854775808 ≤ x) (h2 : x ≤ 9223372036854775807) : IntKind.i64.wrap x = x := by
  simp [IntKind.wrap, IntKind.bits, IntKind.signed]; omega
theorem wrap_i32 {x : Int} (h1 : -2147483648 ≤ x) (h2 : x ≤ 2147483647) : IntKind.i32.wrap x = x := by
  simp [IntKind.wrap, IntKind.bits, IntKind.signed]; omega
theorem wrap_u64 {x : Int} (h1 : 0 ≤ x) (h2 : x ≤ 18446744073709551615) : IntKind.u64.wrap x = x := by
  simp [IntKind.wrap, IntKind.bits, IntKind.signed]; omega
theorem wrap_u8 {x : Int} (h1 : 0 ≤ x) (h2 : x ≤ 255) : IntKind.u8.wrap x = x := by
  simp [IntKind.wrap, IntKind.bits, IntKind.signed]; omega
theorem u64_nonneg (x : Int) : 0 ≤ IntKind.u64.wrap x ∧ IntKind.u64.wrap x < 18446744073709551616 := by
  simp [IntKind.wrap, IntKind.bits, IntKind.signed]; omega
@[simp] theorem wrap_lit0 (k : IntKind) : k.wrap 0 = 0 := by cases k <;> rfl
@[simp] theorem wrap_lit1 (k : IntKind) : k.wrap 1 = 1 := by cases k <;> rfl

/-! ### What is handed back -/
section
variable {h h' : AHeap} {k : Nat}
@[simp] theorem frz_zero {a : AV} : frzF 0 h h' a = a := nrfl rfl
theorem frz_bare {a : AV} (e : a.bare = true) : frzF k h h' a = a := by
  cases k with
  | zero => rfl
  | succ k => cases a <;> first | rfl | (simp [AV.bare] at e; done)
@[simp] theorem frz_undef : frzF k h h' .undef = .undef := frz_bare rfl
@[simp] theorem frz_bool {b : Bool} : frzF k h h' (.bool b) = .bool b := frz_bare rfl
@[simp] theorem frz_int {i : IntKind} {n : Int} : frzF k h h' (.int i n) = .int i n := frz_bare rfl
@[simp] theorem frz_str {s : List UInt8} : frzF k h h' (.str s) = .str s := frz_bare rfl
@[simp] theorem frz_nilsl : frzF k h h' .nilsl = .nilsl := frz_bare rfl
@[simp] theorem frz_nilptr : frzF k h h' .nilptr = .nilptr := frz_bare rfl
@[simp] theorem frz_nilmap : frzF k h h' .nilmap = .nilmap := frz_bare rfl
@[simp] theorem frz_nilfn : frzF k h h' .nilfn = .nilfn := frz_bare rfl
@[simp] theorem frz_nilif : frzF k h h' .nilif = .nilif := frz_bare rfl
@[simp] theorem frz_sl {n : Nat} {cs : List AV} : frzF (k + 1) h h' (.sl n cs) = .sl n (cs.map (frzF k h h')) := nrfl rfl
@[simp] theorem frz_agg {cs : List AV} : frzF (k + 1) h h' (.agg cs) = .agg (cs.map (frzF k h h')) := nrfl rfl
@[simp] theorem frz_tup {cs : List AV} : frzF (k + 1) h h' (.tup cs) = .tup (cs.map (frzF k h h')) := nrfl rfl
@[simp] theorem frz_fptr {cs : List AV} : frzF (k + 1) h h' (.fptr cs) = .fptr (cs.map (frzF k h h')) := nrfl rfl
@[simp] theorem frz_fn {f : Fn} {fi ca : List AV} : frzF (k + 1) h h' (.fn f fi ca) = .fn f (fi.map (frzF k h h')) (ca.map (frzF k h h')) := nrfl rfl
theorem frz_osl {b off n es : Nat} (e : Fresh h' b) : frzF (k + 1) h h' (.osl b off n es) = match cellsAt h b 0 with | some cs => if off + n * es ≤ cs.length then .sl n (((cs.drop off).take (n * es)).map (frzF k h h')) else .osl b off n es | none => .osl b off n es := by
  unfold Fresh at e
  simp only [frzF, cellsAt, e]
  cases h b with
  | none => rfl
  | some c => cases c <;> rfl
attribute [simp] frz_osl
theorem frz_ptr {b off : Nat} (e : Fresh h' b) : frzF (k + 1) h h' (.ptr b off) = match cellsAt h b off with | some cs => .fptr (cs.map (frzF k h h')) | none => .ptr b off := by
  unfold Fresh at e
  simp only [frzF, cellsAt, e]
  cases h b with
  | none => rfl
  | some c => cases c <;> rfl
attribute [simp] frz_ptr
theorem map_self {l : List AV} {f : AV → AV} (e : ∀ a ∈ l, f a = a) : l.map f = l := by
  induction l with
  | nil => rfl
  | cons a l ih => simp only [List.map_cons, e a (by simp), ih fun b hb => e b (by simp [hb])]
theorem map_frz {l : List AV} (e : ∀ a ∈ l, a.bare = true) : l.map (frzF k h h') = l := map_self fun a ha => frz_bare (e a ha)
/-- What is told by value alone. -/
def AV.frozen : AV → Bool
  | .sl _ cs => frozens cs
  | .agg cs => frozens cs
  | .tup cs => frozens cs
  | .fptr cs => frozens cs
  | .fn _ fi ca => frozens fi && frozens ca
  | .iface _ v => v.frozen
  | .osl .. | .ptr .. | .map _ => false
  | _ => true
where frozens : List AV → Bool
  | [] => true
  | a :: as => a.frozen && frozens as
theorem frozens_iff {l : List AV} : AV.frozen.frozens l = true ↔ ∀ a ∈ l, a.frozen = true := by
  induction l with
  | nil => simp [AV.frozen.frozens]
  | cons a l ih => simp [AV.frozen.frozens, ih]
theorem frz_frozen : ∀ (k : Nat) (a : AV), a.frozen = true → frzF k h h' a = a := by
  intro k
  induction k with
  | zero => intro a _; rfl
  | succ k ih =>
    have il : ∀ l : List AV, AV.frozen.frozens l = true → l.map (frzF k h h') = l := by
      intro l e
      rw [frozens_iff] at e
      exact map_self fun a ha => ih a (e a ha)
    intro a e
    cases a <;> simp only [AV.frozen, Bool.and_eq_true] at e <;> first | rfl | (simp at e; done) | skip
    · simp only [frzF, il _ e]
    · simp only [frzF, il _ e]
    · simp only [frzF, il _ e.1, il _ e.2]
    · simp only [frzF, ih _ e]
    · simp only [frzF, il _ e]
    · simp only [frzF, il _ e]
theorem map_frozen {l : List AV} (e : ∀ a ∈ l, a.frozen = true) : l.map (frzF k h h') = l := map_self fun a ha => frz_frozen k a (e a ha)

theorem ne_fresh {b r off : Nat} {cs : List AV} (e : cellsAt h b off = some cs) (f : Fresh h r) : ¬ b = r ∧ ¬ r = b := by
  constructor
  · rintro rfl; unfold Fresh at f; simp [cellsAt, f] at e
  · rintro rfl; unfold Fresh at f; simp [cellsAt, f] at e

/-- A block that is there turns in its place. -/
def AHeap.updN (h : AHeap) (b : Nat) (c : Chunk) : AHeap := h.upd b c
@[simp] theorem upd_in {b b' : Nat} {c c' : Chunk} (hne : ¬ b = b') (hin : ¬ Fresh h b') : (h.upd b c).upd b' c' = (h.updN b' c').upd b c := AHeap.upd_comm hne
@[simp] theorem updN_same {b : Nat} {c c' : Chunk} : (h.upd b c).updN b c' = h.upd b c' := AHeap.upd_upd
@[simp] theorem updN_ne {b b' : Nat} {c c' : Chunk} (hne : ¬ b = b') : (h.upd b c).updN b' c' = (h.updN b' c').upd b c := AHeap.upd_comm hne
theorem notFresh {b off : Nat} {cs : List AV} (e : cellsAt h b off = some cs) : ¬ Fresh h b := by
  intro f; unfold Fresh at f; simp [cellsAt, f] at e

/-- A row of one's own that grows: nothing yet, or a block. -/
def ownV (o : Option Nat) (n es : Nat) : AV := match o with | none => .nilsl | some b => .osl b 0 n es
def AHeap.updO (h : AHeap) (o : Option Nat) (cs : List AV) : AHeap := match o with | none => h | some b => h.upd b (.cells cs)
@[simp] theorem ownV_none {n es : Nat} : ownV none n es = .nilsl := nrfl rfl
@[simp] theorem ownV_some {b n es : Nat} : ownV (some b) n es = .osl b 0 n es := nrfl rfl
@[simp] theorem updO_none {cs : List AV} : h.updO none cs = h := nrfl rfl
@[simp] theorem updO_some {b : Nat} {cs : List AV} : h.updO (some b) cs = h.upd b (.cells cs) := nrfl rfl
def FreshO (h : AHeap) (o : Option Nat) : Prop := match o with | none => True | some b => Fresh h b
@[simp] theorem freshO_none : FreshO h none = True := nrfl rfl
@[simp] theorem freshO_some {b : Nat} : FreshO h (some b) = Fresh h b := nrfl rfl
@[simp] theorem del_fresh {b : Nat} (e : Fresh h b) : h.del b = h := AHeap.del_none e

/-- A block is given up wherever code is told as a whole: every slot is told anew. -/
theorem AWP_give {P : Program} {ro : Option Nat} {N : Nat} {c : Code} {Q : Exit → AF → AHeap → Prop} {t : AF} {h : AHeap} (k : Nat) (b : Nat) (x : AWP P ro N c Q (fun i => frzF k h (h.del b) (t i)) (h.del b)) : AWP P ro N c Q t h :=
  AWP.turn ⟨k, h.del b, _, SubH.del k h b, fun _ => .inr rfl, x⟩
theorem turnA_give {K : AF → AHeap → Prop} {t : AF} {h : AHeap} (k : Nat) (b : Nat) (x : K (fun i => frzF k h (h.del b) (t i)) (h.del b)) : turnA K t h :=
  ⟨k, h.del b, _, SubH.del k h b, fun _ => .inr rfl, x⟩
@[simp] theorem frz_ptr_ne {h h' : AHeap} {k b off : Nat} (e : h' b ≠ none) : frzF k h h' (.ptr b off) = .ptr b off := by
  cases k with
  | zero => rfl
  | succ k =>
    simp only [frzF]
    split
    · next h1 h2 => exact absurd h2 e
    · rfl

/-- A row of one's own is given up: it is told by value from here on. -/
theorem turnA_row {K : AF → AHeap → Prop} {t : AF} (d b : Nat) {n es : Nat} {cs : List AV} (hd : t d = .osl b 0 n es) (hb : cellsAt h b 0 = some cs) (hl : cs.length = n * es) (hf : ∀ a ∈ cs, a.frozen = true) (q : K (t.put d (.sl n cs)) (h.del b)) : turnA K t h := by
  refine ⟨1, h.del b, t.put d (.sl n cs), SubH.del 1 h b, fun i => ?_, q⟩
  by_cases e : i = d
  · subst e
    refine .inr ?_
    rw [AF.put_same, hd]
    simp only [frzF, AHeap.del_same]
    have hb' : h b = some (.cells cs) := by
      unfold cellsAt at hb
      split at hb
      · next cs' h1 => rw [h1]; simpa using hb
      · cases hb
    rw [hb']
    simp only [Nat.zero_add, List.drop_zero]
    rw [if_pos (by omega), List.take_of_length_le (by omega)]
    simp
  · exact .inl (AF.put_ne _ _ _ _ e)

/-! ### Lists as rows -/
def intsA (l : List Int) : AV := .sl l.length (l.map (.int .i64))
def boolsA (l : List Bool) : AV := .sl l.length (l.map .bool)
def strsA (l : List (List UInt8)) : AV := .sl l.length (l.map .str)
def rowsA (l : List (List Int)) : AV := .sl l.length (l.map intsA)
@[simp] theorem intsA_one {l : List Int} : (intsA l).one = true := rfl
@[simp] theorem boolsA_one {l : List Bool} : (boolsA l).one = true := rfl
@[simp] theorem strsA_one {l : List (List UInt8)} : (strsA l).one = true := rfl
@[simp] theorem rowsA_one {l : List (List Int)} : (rowsA l).one = true := rfl
@[simp] theorem intsA_fit {l : List Int} : (intsA l).fit = true := rfl
@[simp] theorem boolsA_fit {l : List Bool} : (boolsA l).fit = true := rfl
@[simp] theorem strsA_fit {l : List (List UInt8)} : (strsA l).fit = true := rfl
@[simp] theorem rowsA_fit {l : List (List Int)} : (rowsA l).fit = true := rfl
@[simp] theorem intsA_cells {l : List Int} : (intsA l).cells = [intsA l] := rfl
@[simp] theorem boolsA_cells {l : List Bool} : (boolsA l).cells = [boolsA l] := rfl
@[simp] theorem strsA_cells {l : List (List UInt8)} : (strsA l).cells = [strsA l] := rfl
@[simp] theorem rowsA_cells {l : List (List Int)} : (rowsA l).cells = [rowsA l] := rfl
theorem ints_frozen {l : List Int} : ∀ a ∈ l.map (AV.int .i64), a.frozen = true := by
  intro a ha; obtain ⟨x, _, rfl⟩ := List.mem_map.1 ha; rfl
theorem bools_frozen {l : List Bool} : ∀ a ∈ l.map AV.bool, a.frozen = true := by
  intro a ha; obtain ⟨x, _, rfl⟩ := List.mem_map.1 ha; rfl
theorem strs_frozen {l : List (List UInt8)} : ∀ a ∈ l.map AV.str, a.frozen = true := by
  intro a ha; obtain ⟨x, _, rfl⟩ := List.mem_map.1 ha; rfl
@[simp] theorem intsA_frozen {l : List Int} : (intsA l).frozen = true := by simp only [intsA, AV.frozen]; exact frozens_iff.2 ints_frozen
@[simp] theorem boolsA_frozen {l : List Bool} : (boolsA l).frozen = true := by simp only [boolsA, AV.frozen]; exact frozens_iff.2 bools_frozen
@[simp] theorem strsA_frozen {l : List (List UInt8)} : (strsA l).frozen = true := by simp only [strsA, AV.frozen]; exact frozens_iff.2 strs_frozen
theorem rows_frozen {l : List (List Int)} : ∀ a ∈ l.map intsA, a.frozen = true := by
  intro a ha; obtain ⟨x, _, rfl⟩ := List.mem_map.1 ha; exact intsA_frozen
@[simp] theorem rowsA_frozen {l : List (List Int)} : (rowsA l).frozen = true := by simp only [rowsA, AV.frozen]; exact frozens_iff.2 rows_frozen
@[simp] theorem frz_ints {l : List Int} : frzF k h h' (intsA l) = intsA l := frz_frozen k _ intsA_frozen
@[simp] theorem frz_bools {l : List Bool} : frzF k h h' (boolsA l) = boolsA l := frz_frozen k _ boolsA_frozen
@[simp] theorem frz_strs {l : List (List UInt8)} : frzF k h h' (strsA l) = strsA l := frz_frozen k _ strsA_frozen
@[simp] theorem frz_rows {l : List (List Int)} : frzF k h h' (rowsA l) = rowsA l := frz_frozen k _ rowsA_frozen
@[simp] theorem map_frz_ints {l : List Int} : (l.map (AV.int .i64)).map (frzF k h h') = l.map (.int .i64) := map_frozen ints_frozen
@[simp] theorem map_frz_bools {l : List Bool} : (l.map AV.bool).map (frzF k h h') = l.map .bool := map_frozen bools_frozen
@[simp] theorem map_frz_strs {l : List (List UInt8)} : (l.map AV.str).map (frzF k h h') = l.map .str := map_frozen strs_frozen
@[simp] theorem map_frz_rows {l : List (List Int)} : (l.map intsA).map (frzF k h h') = l.map intsA := map_frozen rows_frozen
end
end Go.AH

end

section
/-
  The barriers are raised: from here on simp leaves alone what follows a step that is not yet taken.
-/
namespace Go.AH
attribute [congr] onSome_congr newA_congr awp_congr awpOps_congr opStep_congr AWP_congr awpLoop_congr ACalls_congr AYield_congr ACallV_congr finA_congr turnA_congr condA_congr guardA_congr storeA_congr makeA_congr appendA_congr copyA_congr stepW_bar stepG_bar awpOpsG_bar
end Go.AH

end
