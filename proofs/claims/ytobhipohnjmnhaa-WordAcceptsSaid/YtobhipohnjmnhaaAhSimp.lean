/-
  The calculus as rewrite rules.
-/
import Derived.Test.YtobhipohnjmnhaaAhCode
set_option linter.unusedSimpArgs false
set_option linter.unusedVariables false
set_option linter.unusedSectionVars false
namespace Go.AH
open Go
universe u

/-- An equation that simp does not take for one by computation: its proofs are then checked step by step. -/
theorem nrfl {α : Sort u} {a b : α} (h : a = b) : a = b := h
/-- A barrier for simp: a congruence that always counts as a step, so that what follows is left alone. -/
@[irreducible] def keep {α : Sort u} (x : α) : α := x
@[simp] theorem keep_eq {α : Sort u} (x : α) : keep x = x := by unfold keep; exact Eq.refl x

@[simp] theorem onSome_some {α : Type} (v : α) (K : α → Prop) : onSome (some v) K = K v := nrfl rfl
@[simp] theorem onSome_none {α : Type} (K : α → Prop) : onSome none K = False := nrfl rfl
@[simp] theorem onSome_ite {α : Type} (c : Prop) [Decidable c] (x y : Option α) (K : α → Prop) : onSome (if c then x else y) K = ((c → onSome x K) ∧ (¬ c → onSome y K)) := by
  split <;> simp [*]
@[simp] theorem onSome_map {α β : Type} (o : Option α) (f : α → β) (K : β → Prop) : onSome (o.map f) K = onSome o fun v => K (f v) := by cases o <;> rfl
theorem onSome_congr {α : Type} {o o' : Option α} {K : α → Prop} (h : keep o = o') : onSome o K = onSome o' K := by rw [← h, keep_eq]

def Fresh (h : AHeap) (b : Nat) : Prop := h b = none
@[simp] theorem fresh_empty (b : Nat) : Fresh AHeap.empty b = True := by simp [Fresh]
@[simp] theorem fresh_upd (h : AHeap) (b b' : Nat) (c : Chunk) : Fresh (h.upd b c) b' = (¬ b' = b ∧ ¬ b = b' ∧ Fresh h b') := by
  unfold Fresh
  by_cases e : b' = b
  · subst e; simp
  · have : ¬ b = b' := fun h => e h.symm
    simp [AHeap.upd_ne e, e, this]
def newA (h : AHeap) (c : Chunk) (F : Nat → AHeap → Prop) : Prop := ∀ b, Fresh h b → F b (h.upd b c)
theorem newA_congr {h h' : AHeap} {c c' : Chunk} {F : Nat → AHeap → Prop} (e : keep h = h') (e' : c = c') : newA h c F = newA h' c' F := by rw [← e, e', keep_eq]

@[simp] theorem AHeap.upd_get (h : AHeap) (b b' : Nat) (c : Chunk) : h.upd b c b' = if b' = b then some c else h b' := nrfl rfl
@[simp] theorem AHeap.upd_del_if (h : AHeap) (b b' : Nat) (c : Chunk) : (h.upd b c).del b' = if b' = b then h.del b' else (h.del b').upd b c := by
  split
  · next e => subst e; funext i; by_cases hi : i = b' <;> simp [AHeap.upd, AHeap.del, hi]
  · next e => exact AHeap.del_upd_ne (fun h => e h.symm)
attribute [simp] AHeap.del_empty

def AF.bot : AF := fun _ => .undef
@[simp] theorem AF.bot_at (i : Nat) : AF.bot i = .undef := nrfl rfl
@[simp] theorem AF.putO_some (t : AF) (d : Nat) (v : AV) : t.putO (some d) v = t.put d v := nrfl rfl
@[simp] theorem AF.putO_none (t : AF) (v : AV) : t.putO none v = t := nrfl rfl
@[simp] theorem AF.put_get (t : AF) (d i : Nat) (v : AV) : t.put d v i = if i = d then v else t i := nrfl rfl
@[simp] theorem AF.put_put (t : AF) (d : Nat) (v v' : AV) : (t.put d v).put d v' = t.put d v' := by
  funext i; by_cases h : i = d <;> simp [h]

@[simp] theorem entryF0 : entryF [] = AF.bot := nrfl rfl
theorem entryF_snoc (l : List AV) (a : AV) : entryF (l ++ [a]) = (entryF l).put l.length a := by
  funext i
  simp only [entryF, AF.put_get, List.getD_eq_getElem?_getD]
  rcases Nat.lt_trichotomy i l.length with h | h | h
  · rw [List.getElem?_append_left h, if_neg (by omega)]
  · subst h; simp
  · rw [List.getElem?_eq_none (by simp; omega), if_neg (by omega), List.getElem?_eq_none (by omega)]
@[simp] theorem entryF1 (a : AV) : entryF [a] = AF.bot.put 0 a := entryF_snoc [] a
@[simp] theorem entryF2 (a b : AV) : entryF [a, b] = (AF.bot.put 0 a).put 1 b := by rw [← entryF1]; exact entryF_snoc [a] b
@[simp] theorem entryF3 (a b c : AV) : entryF [a, b, c] = ((AF.bot.put 0 a).put 1 b).put 2 c := by rw [← entryF2]; exact entryF_snoc [a, b] c
@[simp] theorem entryF4 (a b c d : AV) : entryF [a, b, c, d] = (((AF.bot.put 0 a).put 1 b).put 2 c).put 3 d := by rw [← entryF3]; exact entryF_snoc [a, b, c] d
@[simp] theorem entryF5 (a b c d e : AV) : entryF [a, b, c, d, e] = ((((AF.bot.put 0 a).put 1 b).put 2 c).put 3 d).put 4 e := by rw [← entryF4]; exact entryF_snoc [a, b, c, d] e
@[simp] theorem entryF6 (a b c d e f : AV) : entryF [a, b, c, d, e, f] = (((((AF.bot.put 0 a).put 1 b).put 2 c).put 3 d).put 4 e).put 5 f := by rw [← entryF5]; exact entryF_snoc [a, b, c, d, e] f
@[simp] theorem entryF7 (a b c d e f g : AV) : entryF [a, b, c, d, e, f, g] = ((((((AF.bot.put 0 a).put 1 b).put 2 c).put 3 d).put 4 e).put 5 f).put 6 g := by rw [← entryF6]; exact entryF_snoc [a, b, c, d, e, f] g
@[simp] theorem entryF8 (a b c d e f g i : AV) : entryF [a, b, c, d, e, f, g, i] = (((((((AF.bot.put 0 a).put 1 b).put 2 c).put 3 d).put 4 e).put 5 f).put 6 g).put 7 i := by rw [← entryF7]; exact entryF_snoc [a, b, c, d, e, f, g] i

section
variable {P : Program} {t t' : AF} {h h' : AHeap} {K : AF → AHeap → Prop} {Q : Exit → AF → AHeap → Prop} {ro : Option Nat} {N : Nat} {ops : Array Oper} {rest : List Oper}

@[simp] theorem evalA_tmp (i : Nat) : evalA t (.tmp i) = t i := nrfl rfl
@[simp] theorem evalA_const (v : Value) : evalA t (.const v) = cval v := nrfl rfl
@[simp] theorem evalA_func (f : FuncId) : evalA t (.func f) = .fn (.func f) [] [] := nrfl rfl
@[simp] theorem cval_bool (b : Bool) : cval (.bool b) = .bool b := nrfl rfl
@[simp] theorem cval_int (k : IntKind) (n : Int) : cval (.int k n) = .int k n := nrfl rfl
@[simp] theorem cval_str (s : ByteArray) : cval (.string s) = .str s.data.toList := nrfl rfl
@[simp] theorem cval_nilsl : cval (.slice none 0 0) = .nilsl := nrfl rfl
@[simp] theorem cval_nilptr : cval (.pointer none) = .nilptr := nrfl rfl
@[simp] theorem cval_nilmap : cval (.map none) = .nilmap := nrfl rfl
@[simp] theorem cval_nilfn : cval .nilFunc = .nilfn := nrfl rfl
@[simp] theorem cval_nilif : cval .nilIface = .nilif := nrfl rfl

/-! congruence: what follows is left alone -/
theorem awp_congr {c : Code} (e : keep t = t') (e' : h = h') : awp P ro N c Q t h = awp P ro N c Q t' h' := by rw [← e, e', keep_eq]
theorem awpOps_congr (e : keep t = t') (e' : h = h') : awpOps P ops K rest t h = awpOps P ops K rest t' h' := by rw [← e, e', keep_eq]
theorem opStep_congr {o : Oper} (e : keep t = t') (e' : h = h') : opStep P o K t h = opStep P o K t' h' := by rw [← e, e', keep_eq]
theorem AWP_congr {c : Code} (e : keep t = t') (e' : h = h') : AWP P ro N c Q t h = AWP P ro N c Q t' h' := by rw [← e, e', keep_eq]
theorem awpLoop_congr {body : (Exit → AF → AHeap → Prop) → AF → AHeap → Prop} (e : keep t = t') (e' : h = h') : awpLoop body Q t h = awpLoop body Q t' h' := by rw [← e, e', keep_eq]
theorem ACalls_congr {f : FuncId} {as as' : List AV} {R : AV → AHeap → Prop} (e : keep as = as') (e' : h = h') : ACalls P f as h R = ACalls P f as' h' R := by rw [← e, e', keep_eq]
theorem AYield_congr {l : Nat} {as as' : List AV} {R : AV → AHeap → Prop} (e : keep as = as') (e' : h = h') : AYield P l as h R = AYield P l as' h' R := by rw [← e, e', keep_eq]
theorem ACallV_congr {f f' : AV} {as as' : List AV} {R : AV → AHeap → Prop} (ef : keep f = f') (e : as = as') (e' : h = h') : ACallV P f as h R = ACallV P f' as' h' R := by rw [← ef, e, e', keep_eq]
theorem finA_congr {r r' : AV} {R : AV → AHeap → Prop} (e : keep r = r') (e' : h = h') : finA R r h = finA R r' h' := by rw [← e, e', keep_eq]
theorem turnA_congr (e : keep t = t') (e' : h = h') : turnA K t h = turnA K t' h' := by rw [← e, e', keep_eq]
@[simp] theorem ACallV_func {f : FuncId} {first caps as : List AV} {R : AV → AHeap → Prop} : ACallV P (.fn (.func f) first caps) as h R = ACalls P f (first ++ as ++ caps) h R := nrfl rfl
@[simp] theorem ACallV_yield {l : Nat} {as : List AV} {R : AV → AHeap → Prop} : ACallV P (.fn (.yield l) [] []) as h R = AYield P l as h R := nrfl rfl

/-! code -/
@[simp] theorem awp_skip : awp P ro N .skip Q t h = Q .normal t h := nrfl rfl
@[simp] theorem awp_label {l : Nat} : awp P ro N (.label l) Q t h = Q .normal t h := nrfl rfl
@[simp] theorem awp_region {id : Nat} {l : List Oper} : awp P ro N (.region id l.toArray false) Q t h = awpOps P l.toArray (Q .normal) l t h := nrfl rfl
@[simp] theorem awp_draw {id : Nat} : awp P ro N (.region id ops true) Q t h = AWP P ro N (.region id ops true) Q t h := nrfl rfl
@[simp] theorem awp_seq {x y : Code} : awp P ro N (.seq x y) Q t h = awp P ro N x (thenA (awp P ro N y Q) Q) t h := nrfl rfl
@[simp] theorem awp_cond {c : Operand} {x y : Code} : awp P ro N (.cond c x y) Q t h = condA (evalA t c) (awp P ro N x Q t h) (awp P ro N y Q t h) := nrfl rfl
@[simp] theorem awp_block {id : Nat} {c : Code} : awp P ro N (.block id c) Q t h = awp P ro N c (blockA id Q) t h := nrfl rfl
@[simp] theorem awp_loop {c : Code} : awp P ro N (.loop c) Q t h = awpLoop (awp P ro N c) Q t h := nrfl rfl
@[simp] theorem awp_exit {id : Nat} : awp P ro N (.exit id) Q t h = Q (.exit id) t h := nrfl rfl
@[simp] theorem awp_ret : awp P ro N .ret Q t h = Q .ret t h := nrfl rfl
@[simp] theorem awp_rangeFunc {f : Operand} {ps : Array Tmp} {as b : Code} : awp P ro N (.rangeFunc f ps as b) Q t h = AWP P ro N (.rangeFunc f ps as b) Q t h := nrfl rfl
@[simp] theorem awp_scope {c : Code} : awp P ro N (.scope c) Q t h = AWP P ro N (.scope c) Q t h := nrfl rfl
@[simp] theorem thenA_normal : thenA K Q .normal = K := nrfl rfl
@[simp] theorem thenA_ret : thenA K Q .ret = Q .ret := nrfl rfl
@[simp] theorem thenA_exit {id : Nat} : thenA K Q (.exit id) = Q (.exit id) := nrfl rfl
@[simp] theorem blockA_exit {id id' : Nat} : blockA id Q (.exit id') = if id' = id then Q .normal else Q (.exit id') := nrfl rfl
@[simp] theorem blockA_normal {id : Nat} : blockA id Q .normal = Q .normal := nrfl rfl
@[simp] theorem blockA_ret {id : Nat} : blockA id Q .ret = Q .ret := nrfl rfl
theorem condA_congr {v v' : AV} {X Y : Prop} (e : keep v = v') : condA v X Y = condA v' X Y := by rw [← e, keep_eq]
theorem condA_bool (b : Bool) (X Y : Prop) : condA (.bool b) X Y = ((b = true → X) ∧ (b = false → Y)) := rfl
@[simp] theorem condA_true (X Y : Prop) : condA (.bool true) X Y = X := by simp [condA_bool]
@[simp] theorem condA_false (X Y : Prop) : condA (.bool false) X Y = Y := by simp [condA_bool]
theorem condA_case {b : Bool} {X Y : Prop} (x : b = true → X) (y : b = false → Y) : condA (.bool b) X Y := ⟨x, y⟩
theorem condA_dec {p : Prop} [Decidable p] {X Y : Prop} (x : p → X) (y : ¬ p → Y) : condA (.bool (decide p)) X Y := ⟨fun h => x (of_decide_eq_true h), fun h => y (of_decide_eq_false h)⟩
@[simp] theorem retQ_ret {rs : List ResultVar} {R : AV → AHeap → Prop} : retQ P rs R .ret t h = onSome (resultsA P t h rs) fun r => finA R r h := by
  simp only [retQ, onSome]; cases resultsA P t h rs <;> rfl
@[simp] theorem retQ_normal {rs : List ResultVar} {R : AV → AHeap → Prop} : retQ P rs R .normal t h = onSome (resultsA P t h rs) fun r => finA R r h := by
  simp only [retQ, onSome]; cases resultsA P t h rs <;> rfl
@[simp] theorem resultsA_one {x : ResultVar} : resultsA P t h [x] = resA P t h x := by
  unfold resultsA; simp only [resL]; cases resA P t h x <;> rfl
theorem resultsA_many {xs : List ResultVar} (hl : xs.length ≠ 1) : resultsA P t h xs = (resL P t h xs).map .tup := by
  unfold resultsA
  cases e : resL P t h xs with
  | none => rfl
  | some vs =>
    have key : ∀ (xs : List ResultVar) (vs : List AV), resL P t h xs = some vs → vs.length = xs.length := by
      intro xs
      induction xs with
      | nil => intro vs e; simp only [resL, Option.some.injEq] at e; simp [← e]
      | cons x xs ih =>
        intro vs e
        simp only [resL] at e
        split at e
        · next v vs' _ h2 => simp only [Option.some.injEq] at e; subst e; simp [ih _ h2]
        · cases e
    have := key _ _ e
    match vs, this with
    | [], _ => rfl
    | [v], this => exact absurd this.symm hl
    | _ :: _ :: _, _ => rfl
@[simp] theorem resultsA_zero : resultsA P t h [] = some (.tup []) := nrfl rfl
@[simp] theorem resultsA_two {x y : ResultVar} : resultsA P t h [x, y] = (resL P t h [x, y]).map .tup := resultsA_many (by simp)
@[simp] theorem resultsA_three {x y z : ResultVar} : resultsA P t h [x, y, z] = (resL P t h [x, y, z]).map .tup := resultsA_many (by simp)
@[simp] theorem resultsA_four {x y z u : ResultVar} : resultsA P t h [x, y, z, u] = (resL P t h [x, y, z, u]).map .tup := resultsA_many (by simp)
def resB (P : Program) (ty : TypeId) (h : AHeap) (p : AV) : Option AV := match p with
  | .ptr b off => match h b with
    | some (.cells cs) => loadA P ty (cs.drop off)
    | _ => none
  | .fptr cells => loadA P ty cells
  | _ => none
@[simp] theorem resA_tmp {i : Nat} : resA P t h (.tmp i) = some (t i) := nrfl rfl
@[simp] theorem resA_cell {a : Nat} {ty : TypeId} : resA P t h (.cell a ty) = resB P ty h (t a) := nrfl rfl
def cellsAt (h : AHeap) (b off : Nat) : Option (List AV) := match h b with | some (.cells cs) => some (cs.drop off) | _ => none
theorem cellsAt_eq {b off : Nat} {cs : List AV} (e : h b = some (.cells cs)) : cellsAt h b off = some (cs.drop off) := by simp [cellsAt, e]
@[simp] theorem cellsAt_upd {b b' off : Nat} {cs : List AV} : cellsAt (h.upd b (.cells cs)) b' off = if b' = b then some (cs.drop off) else cellsAt h b' off := by
  unfold cellsAt; by_cases e : b' = b <;> simp [e]
@[simp] theorem cellsAt_upd_map {b b' off : Nat} {sh : KShape} {es : List (AV × AV)} : cellsAt (h.upd b (.map sh es)) b' off = if b' = b then none else cellsAt h b' off := by
  unfold cellsAt; by_cases e : b' = b <;> simp [e]
@[simp] theorem cellsAt_upd_sit {b b' off : Nat} {s : List UInt8} {p : Nat} : cellsAt (h.upd b (.sit s p)) b' off = if b' = b then none else cellsAt h b' off := by
  unfold cellsAt; by_cases e : b' = b <;> simp [e]
@[simp] theorem resB_ptr {ty : TypeId} {b off : Nat} : resB P ty h (.ptr b off) = (cellsAt h b off).bind (loadA P ty) := by
  simp only [resB, cellsAt]; cases h b with
  | none => rfl
  | some c => cases c <;> rfl
@[simp] theorem resB_fptr {ty : TypeId} {cells : List AV} : resB P ty h (.fptr cells) = loadA P ty cells := nrfl rfl
theorem resL_cons {r : ResultVar} {rs : List ResultVar} : resL P t h (r :: rs) = (resA P t h r).bind fun v => (resL P t h rs).map fun vs => v :: vs := by
  simp only [resL]
  cases resA P t h r with
  | none => cases resL P t h rs <;> rfl
  | some v => cases resL P t h rs <;> rfl
attribute [simp] resL_cons
@[simp] theorem resL_nil : resL P t h [] = some [] := nrfl rfl

/-! operations -/
@[simp] theorem awpOps_nil : awpOps P ops K [] t h = K t h := nrfl rfl
@[simp] theorem awpOps_plain {d : Option Nat} {op : Op} {ty : TypeId} {pos : String} {af : Array Edge} :
    awpOps P ops K ({ dst := d, op := op, type := ty, pos := pos, after := af, guard := none } :: rest) t h = opStep P { dst := d, op := op, type := ty, pos := pos, after := af, guard := none } (awpOps P ops K rest) t h := rfl
def guardA (v : AV) (want : Bool) (X Y : Prop) : Prop := match v with | .bool b => (b = want → X) ∧ (¬ b = want → Y) | _ => False
theorem guardA_congr {v v' : AV} {want : Bool} {X Y : Prop} (e : keep v = v') : guardA v want X Y = guardA v' want X Y := by rw [← e, keep_eq]
theorem guardA_bool {b want : Bool} {X Y : Prop} : guardA (.bool b) want X Y = ((b = want → X) ∧ (¬ b = want → Y)) := rfl
@[simp] theorem guardA_tt {X Y : Prop} : guardA (.bool true) true X Y = X := by simp [guardA_bool]
@[simp] theorem guardA_tf {X Y : Prop} : guardA (.bool true) false X Y = Y := by simp [guardA_bool]
@[simp] theorem guardA_ft {X Y : Prop} : guardA (.bool false) true X Y = Y := by simp [guardA_bool]
@[simp] theorem guardA_ff {X Y : Prop} : guardA (.bool false) false X Y = X := by simp [guardA_bool]
theorem guardA_case {b want : Bool} {X Y : Prop} (x : b = true → guardA (.bool b) want X Y) (y : b = false → guardA (.bool b) want X Y) : guardA (.bool b) want X Y := by
  cases b
  · exact y rfl
  · exact x rfl
theorem guardA_dec {p : Prop} [Decidable p] {want : Bool} {X Y : Prop} (x : p → guardA (.bool (decide p)) want X Y) (y : ¬ p → guardA (.bool (decide p)) want X Y) : guardA (.bool (decide p)) want X Y := by
  by_cases h : p
  · exact x h
  · exact y h
theorem awpOps_guard {d : Option Nat} {op : Op} {ty : TypeId} {pos : String} {af : Array Edge} {j : Nat} {want : Bool} :
    awpOps P ops K ({ dst := d, op := op, type := ty, pos := pos, after := af, guard := some (j, want) } :: rest) t h =
      onSome ((ops[j]?).bind (·.dst)) fun g => guardA (t g) want (opStep P { dst := d, op := op, type := ty, pos := pos, after := af, guard := some (j, want) } (awpOps P ops K rest) t h) (awpOps P ops K rest (t.putO d .undef) h) := by
  simp only [awpOps, wantedA]
  cases (ops[j]?).bind (·.dst) with
  | none => rfl
  | some g =>
    simp only [onSome_some]
    cases t g <;> simp [guardA]
    rename_i b
    cases b <;> cases want <;> simp
attribute [simp] awpOps_guard

section
variable {d : Option Nat} {ty : TypeId} {pos : String} {af : Array Edge} {g : Option (Nat × Bool)}
@[simp] theorem step_move {x : Operand} : opStep P { dst := d, op := .move x, type := ty, pos := pos, after := af, guard := g } K t h = K (t.putO d (evalA t x)) h := nrfl rfl
@[simp] theorem step_assign {x : Operand} : opStep P { dst := d, op := .assign x, type := ty, pos := pos, after := af, guard := g } K t h = K (t.putO d (evalA t x)) h := nrfl rfl
def pickA (c : AV) (a b : AV) : Option AV := match c with | .bool x => some (if x then a else b) | _ => none
@[simp] theorem pickA_bool {x : Bool} {a b : AV} : pickA (.bool x) a b = some (if x then a else b) := nrfl rfl
theorem step_pure {op : Op} {r : Option AV} (e : ∀ K' : AV → AHeap → Prop, opRes P { dst := d, op := op, type := ty, pos := pos, after := af, guard := g } t h K' = onSome r fun v => K' v h) :
    opStep P { dst := d, op := op, type := ty, pos := pos, after := af, guard := g } K t h = onSome r fun v => K (t.putO d v) h := e _
@[simp] theorem step_pick {c a b : Operand} : opStep P { dst := d, op := .pick c a b, type := ty, pos := pos, after := af, guard := g } K t h = onSome (pickA (evalA t c) (evalA t a) (evalA t b)) fun v => K (t.putO d v) h := by
  refine step_pure fun K' => ?_
  simp only [opRes, effStep, pureA, pickA]; cases evalA t c <;> rfl
@[simp] theorem step_load {x : Operand} {lt : TypeId} : opStep P { dst := d, op := .load lt x, type := ty, pos := pos, after := af, guard := g } K t h = onSome (resB P lt h (evalA t x)) fun v => K (t.putO d v) h := by
  refine step_pure fun K' => ?_
  simp only [opRes, effStep, pureA, resB]; rfl
def nilA : AV → Option AV | .ptr b off => some (.ptr b off) | .fptr c => some (.fptr c) | _ => none
@[simp] theorem nilA_ptr {b off : Nat} : nilA (.ptr b off) = some (.ptr b off) := nrfl rfl
@[simp] theorem nilA_fptr {c : List AV} : nilA (.fptr c) = some (.fptr c) := nrfl rfl
@[simp] theorem step_nilCheck {x : Operand} : opStep P { dst := d, op := .nilCheck x, type := ty, pos := pos, after := af, guard := g } K t h = onSome (nilA (evalA t x)) fun v => K (t.putO d v) h := by
  refine step_pure fun K' => ?_
  simp only [opRes, effStep, pureA, nilA]; rfl
@[simp] theorem step_binOp {op : BinOp} {xt yt : TypeId} {x y : Operand} : opStep P { dst := d, op := .binOp op xt x y yt, type := ty, pos := pos, after := af, guard := g } K t h = onSome (binA P op xt (evalA t x) (evalA t y)) fun v => K (t.putO d v) h := nrfl rfl
@[simp] theorem step_unOp {op : UnOp} {xt : TypeId} {x : Operand} : opStep P { dst := d, op := .unOp op xt x, type := ty, pos := pos, after := af, guard := g } K t h = onSome (unA op (evalA t x)) fun v => K (t.putO d v) h := nrfl rfl
@[simp] theorem step_convert {s e : TypeId} {x : Operand} : opStep P { dst := d, op := .convert s e x, type := ty, pos := pos, after := af, guard := g } K t h = onSome (convA P h s e (evalA t x)) fun v => K (t.putO d v) h := nrfl rfl
def ifaceA (P : Program) (xt : TypeId) (x : AV) : Option AV := match P.underlying xt with | some (.interface _) => none | some _ => some (.iface xt x) | none => none
@[simp] theorem step_makeInterface {xt : TypeId} {x : Operand} : opStep P { dst := d, op := .makeInterface xt x, type := ty, pos := pos, after := af, guard := g } K t h = onSome (ifaceA P xt (evalA t x)) fun v => K (t.putO d v) h := nrfl rfl
@[simp] theorem step_makeFunc {f : Fn} {first caps : Array Operand} : opStep P { dst := d, op := .makeFunc f first caps, type := ty, pos := pos, after := af, guard := g } K t h = K (t.putO d (.fn f (first.toList.map (evalA t)) (caps.toList.map (evalA t)))) h := nrfl rfl
def sliceB (P : Program) (xt : TypeId) (x : AV) (lo hi : Option AV) : Option AV := match P.underlying xt with | some (.array _ _) => none | _ => sliceA P xt x lo hi
@[simp] theorem step_slice {xt : TypeId} {x : Operand} {lo hi : Option Operand} : opStep P { dst := d, op := .slice xt x lo hi none, type := ty, pos := pos, after := af, guard := g } K t h = onSome (sliceB P xt (evalA t x) (lo.map (evalA t)) (hi.map (evalA t))) fun v => K (t.putO d v) h := nrfl rfl
@[simp] theorem step_fieldAddr {s : TypeId} {x : Operand} {f : Nat} : opStep P { dst := d, op := .fieldAddr s x f, type := ty, pos := pos, after := af, guard := g } K t h = onSome (fieldAddrA P s (evalA t x) f) fun v => K (t.putO d v) h := nrfl rfl
@[simp] theorem step_field {s : TypeId} {x : Operand} {f : Nat} : opStep P { dst := d, op := .field s x f, type := ty, pos := pos, after := af, guard := g } K t h = onSome (fieldA P s (evalA t x) f) fun v => K (t.putO d v) h := nrfl rfl
@[simp] theorem step_indexAddr {xt : TypeId} {x i : Operand} : opStep P { dst := d, op := .indexAddr xt x i, type := ty, pos := pos, after := af, guard := g } K t h = onSome (indexAddrA P xt (evalA t x) (evalA t i)) fun v => K (t.putO d v) h := nrfl rfl
@[simp] theorem step_index {xt : TypeId} {x i : Operand} : opStep P { dst := d, op := .index xt x i, type := ty, pos := pos, after := af, guard := g } K t h = onSome (indexA P xt (evalA t x) (evalA t i)) fun v => K (t.putO d v) h := nrfl rfl
def extractA (x : AV) (i : Nat) : Option AV := match x with | .tup vs => vs[i]? | _ => none
@[simp] theorem extractA_tup {vs : List AV} {i : Nat} : extractA (.tup vs) i = vs[i]? := nrfl rfl
@[simp] theorem step_extract {x : Operand} {i : Nat} : opStep P { dst := d, op := .extract x i, type := ty, pos := pos, after := af, guard := g } K t h = onSome (extractA (evalA t x) i) fun v => K (t.putO d v) h := by
  refine step_pure fun K' => ?_
  simp only [opRes, effStep, pureA, extractA]; rfl
@[simp] theorem step_build {bt : TypeId} {parts : Array (Nat × Operand)} : opStep P { dst := d, op := .build bt parts, type := ty, pos := pos, after := af, guard := g } K t h = onSome (buildA P bt (parts.toList.map fun p => (p.1, evalA t p.2))) fun v => K (t.putO d v) h := nrfl rfl
@[simp] theorem step_len {x : Operand} {xt : TypeId} : opStep P { dst := d, op := .call { callee := .builtin .len, args := #[x], argTypes := #[xt] }, type := ty, pos := pos, after := af, guard := g } K t h = onSome (lenA P h xt (evalA t x)) fun v => K (t.putO d v) h := nrfl rfl
@[simp] theorem step_call {f : Operand} {args : Array Operand} {ats : Array TypeId} : opStep P { dst := d, op := .call { callee := .value f, args := args, argTypes := ats }, type := ty, pos := pos, after := af, guard := g } K t h =
    ACallV P (evalA t f) (args.toList.map (evalA t)) h (fun r h' => K (t.putO d r) h') := rfl
@[simp] theorem step_alloc {e : TypeId} : opStep P { dst := d, op := .alloc e, type := ty, pos := pos, after := af, guard := g } K t h = onSome (zeroT P e) fun z => newA h (.cells z) fun b h' => K (t.putO d (.ptr b 0)) h' := by
  simp only [opStep, opRes, effStep]; cases zeroT P e <;> rfl
@[simp] theorem step_box {e : TypeId} {x : Operand} : opStep P { dst := d, op := .box e x, type := ty, pos := pos, after := af, guard := g } K t h = ((evalA t x).fit = true ∧ newA h (.cells (evalA t x).cells) fun b h' => K (t.putO d (.ptr b 0)) h') := nrfl rfl
@[simp] theorem step_buildSlice {bt : TypeId} {len : Nat} {parts : Array (Nat × Operand)} : opStep P { dst := d, op := .buildSlice bt len parts, type := ty, pos := pos, after := af, guard := g } K t h =
    onSome (elemT P bt) fun e => onSome (fillA (fun i => some (i * e.2.1, e.2.1)) (zcells e.2.2.2 len) (parts.toList.map fun p => (p.1, evalA t p.2))) fun cells => len ≤ 65536 ∧ e.2.1 ≤ 128 ∧ newA h (.cells cells) fun b h' => K (t.putO d (.osl b 0 len e.2.1)) h' := by
  simp only [opStep, opRes, effStep]
  cases elemT P bt with
  | none => rfl
  | some e =>
    obtain ⟨e0, es, by_, z⟩ := e
    simp only [onSome_some]
    cases fillA (fun i => some (i * es, es)) (zcells z len) (parts.toList.map fun p => (p.1, evalA t p.2)) <;> rfl
def storeA (P : Program) (st : TypeId) (h : AHeap) (p v : AV) (K : AHeap → Prop) : Prop := match p with
  | .ptr b off => onSome (cellsAt h b 0) fun cs => v.fit = true ∧ szT P st = some v.cells.length ∧ off + v.cells.length ≤ cs.length ∧ K (h.upd b (.cells (splice cs off v.cells)))
  | _ => False
theorem storeA_congr {st : TypeId} {p p' v v' : AV} {K : AHeap → Prop} (e : keep h = h') (ep : p = p') (ev : v = v') : storeA P st h p v K = storeA P st h' p' v' K := by rw [← e, ep, ev, keep_eq]
@[simp] theorem storeA_ptr {st : TypeId} {b off : Nat} {v : AV} {K : AHeap → Prop} : storeA P st h (.ptr b off) v K = onSome (cellsAt h b 0) fun cs => v.fit = true ∧ szT P st = some v.cells.length ∧ off + v.cells.length ≤ cs.length ∧ K (h.upd b (.cells (splice cs off v.cells))) := nrfl rfl
@[simp] theorem step_store {st : TypeId} {a x : Operand} : opStep P { dst := d, op := .store st a x, type := ty, pos := pos, after := af, guard := g } K t h = storeA P st h (evalA t a) (evalA t x) fun h' => K (t.putO d .undef) h' := by
  simp only [opStep, opRes, effStep, storeA]
  cases evalA t a <;> first | rfl | skip
  rename_i b off
  simp only [cellsAt]
  cases h b with
  | none => rfl
  | some c => cases c <;> rfl
def makeA (h : AHeap) (e : TypeId × Nat × Nat × List AV) (l c : AV) (K : AV → AHeap → Prop) : Prop := match l, c with
  | .int _ l, .int _ c => 0 ≤ l ∧ l ≤ c ∧ c < 2 ^ 30 ∧ newA h (.cells (zcells e.2.2.2 l.toNat)) fun b h' => K (.osl b 0 l.toNat e.2.1) h'
  | _, _ => False
theorem makeA_congr {e : TypeId × Nat × Nat × List AV} {l l' c c' : AV} {K : AV → AHeap → Prop} (eh : keep h = h') (el : l = l') (ec : c = c') : makeA h e l c K = makeA h' e l' c' K := by rw [← eh, el, ec, keep_eq]
@[simp] theorem makeA_int {e : TypeId × Nat × Nat × List AV} {k k' : IntKind} {l c : Int} {K : AV → AHeap → Prop} : makeA h e (.int k l) (.int k' c) K = (0 ≤ l ∧ l ≤ c ∧ c < 2 ^ 30 ∧ newA h (.cells (zcells e.2.2.2 l.toNat)) fun b h' => K (.osl b 0 l.toNat e.2.1) h') := nrfl rfl
@[simp] theorem step_makeSlice {st : TypeId} {l c : Operand} : opStep P { dst := d, op := .makeSlice st l c, type := ty, pos := pos, after := af, guard := g } K t h = onSome (elemT P st) fun e => makeA h e (evalA t l) (evalA t c) fun r h' => K (t.putO d r) h' := by
  simp only [opStep, opRes, effStep]
  cases elemT P st with
  | none => rfl
  | some e =>
    obtain ⟨e0, es, by_, z⟩ := e
    simp only [onSome_some, makeA]
    cases evalA t l <;> cases evalA t c <;> rfl
/-- A map type: its key's shape, its element's zero. -/
def mapT (P : Program) (t : TypeId) : Option (KShape × Option AV) := match P.underlying t with
  | some (.map kt et) => (shapeT P kt).map fun sh => (sh, zeroV P et)
  | _ => none
@[simp] theorem step_makeMap {mt : TypeId} : opStep P { dst := d, op := .makeMap mt none, type := ty, pos := pos, after := af, guard := g } K t h = onSome (mapT P mt) fun m => newA h (.map m.1 []) fun b h' => K (t.putO d (.map b)) h' := by
  simp only [opStep, opRes, effStep, mapT]
  cases P.underlying mt with
  | none => rfl
  | some u => cases u <;> first | rfl | (rename_i kt et; simp only [onSome_map]; cases shapeT P kt <;> rfl)
def mapAt (h : AHeap) (x : AV) : Option (Nat × KShape × List (AV × AV)) := match x with
  | .map b => match h b with | some (.map sh es) => some (b, sh, es) | _ => none
  | _ => none
@[simp] theorem mapAt_upd {b b' : Nat} {sh : KShape} {es : List (AV × AV)} : mapAt (h.upd b (.map sh es)) (.map b') = if b' = b then some (b', sh, es) else mapAt h (.map b') := by
  unfold mapAt; by_cases e : b' = b <;> simp [e]
@[simp] theorem mapAt_upd_cells {b b' : Nat} {cs : List AV} : mapAt (h.upd b (.cells cs)) (.map b') = if b' = b then none else mapAt h (.map b') := by
  unfold mapAt; by_cases e : b' = b <;> simp [e]
@[simp] theorem mapAt_upd_sit {b b' : Nat} {s : List UInt8} {p : Nat} : mapAt (h.upd b (.sit s p)) (.map b') = if b' = b then none else mapAt h (.map b') := by
  unfold mapAt; by_cases e : b' = b <;> simp [e]
theorem mapAt_eq {b : Nat} {sh : KShape} {es : List (AV × AV)} (e : h b = some (.map sh es)) : mapAt h (.map b) = some (b, sh, es) := by simp [mapAt, e]
theorem mapAt_spec {x : AV} {b : Nat} {sh : KShape} {es : List (AV × AV)} (e : mapAt h x = some (b, sh, es)) : x = .map b ∧ h b = some (.map sh es) := by
  unfold mapAt at e
  split at e
  · split at e
    · next hb => cases e; exact ⟨rfl, hb⟩
    · cases e
  · cases e
theorem mapAt_none {x : AV} (e : mapAt h x = none) : ∀ b sh es, ¬ (x = .map b ∧ h b = some (.map sh es)) := by
  rintro b sh es ⟨rfl, hb⟩
  rw [mapAt_eq hb] at e; cases e
theorem step_mapUp {mt : TypeId} {m k x : Operand} {op : Op} (hop : op = .mapUpdate mt m k x ∨ op = .insert mt m k x) : opStep P { dst := d, op := op, type := ty, pos := pos, after := af, guard := g } K t h =
    onSome (mapT P mt) fun mm => onSome (mapAt h (evalA t m)) fun q => mm.1 = q.2.1 ∧ q.2.1.ok (evalA t k) = true ∧ K (t.putO d .undef) (h.upd q.1 (.map q.2.1 (mapSet q.2.2 (evalA t k) (evalA t x)))) := by
  rcases hop with rfl | rfl <;>
  · simp only [opStep, opRes, effStep, mapT]
    cases P.underlying mt with
    | none => rfl
    | some u =>
      cases u <;> first | rfl | skip
      rename_i kt et
      simp only [onSome_map]
      cases hm : mapAt h (evalA t m) with
      | none =>
        have hn := mapAt_none hm
        cases hs : shapeT P kt with
        | none =>
          simp only [onSome_none]
          cases e : evalA t m <;> first | rfl | skip
          rename_i b
          simp only
          cases hb : h b with
          | none => rfl
          | some c => cases c <;> first | rfl | simp
        | some sh =>
          simp only [onSome_some, onSome_none]
          cases e : evalA t m <;> first | rfl | skip
          rename_i b
          simp only
          cases hb : h b with
          | none => rfl
          | some c =>
            cases c <;> first | rfl | skip
            exact absurd ⟨e, hb⟩ (hn _ _ _)
      | some q =>
        obtain ⟨b, sh', es⟩ := q
        obtain ⟨e, hb⟩ := mapAt_spec hm
        rw [e]
        simp only [hb]
        cases hs : shapeT P kt with
        | none => simp
        | some sh => simp
@[simp] theorem step_mapUpdate {mt : TypeId} {m k x : Operand} : opStep P { dst := d, op := .mapUpdate mt m k x, type := ty, pos := pos, after := af, guard := g } K t h =
    onSome (mapT P mt) fun mm => onSome (mapAt h (evalA t m)) fun q => mm.1 = q.2.1 ∧ q.2.1.ok (evalA t k) = true ∧ K (t.putO d .undef) (h.upd q.1 (.map q.2.1 (mapSet q.2.2 (evalA t k) (evalA t x)))) := step_mapUp (.inl rfl)
@[simp] theorem step_insert {mt : TypeId} {m k x : Operand} : opStep P { dst := d, op := .insert mt m k x, type := ty, pos := pos, after := af, guard := g } K t h =
    onSome (mapT P mt) fun mm => onSome (mapAt h (evalA t m)) fun q => mm.1 = q.2.1 ∧ q.2.1.ok (evalA t k) = true ∧ K (t.putO d .undef) (h.upd q.1 (.map q.2.1 (mapSet q.2.2 (evalA t k) (evalA t x)))) := step_mapUp (.inr rfl)
@[simp] theorem step_lookup {mt : TypeId} {m k : Operand} {ok : Bool} : opStep P { dst := d, op := .lookup mt m k ok, type := ty, pos := pos, after := af, guard := g } K t h =
    onSome (mapT P mt) fun mm => onSome mm.2 fun z => onSome (mapAt h (evalA t m)) fun q => mm.1 = q.2.1 ∧ q.2.1.ok (evalA t k) = true ∧
      K (t.putO d (if ok then .tup [(mapGet q.2.2 (evalA t k)).getD z, .bool (mapGet q.2.2 (evalA t k)).isSome] else (mapGet q.2.2 (evalA t k)).getD z)) h := by
  simp only [opStep, opRes, effStep, mapT]
  cases P.underlying mt with
  | none => rfl
  | some u =>
    cases u <;> first | rfl | skip
    rename_i kt et
    simp only [onSome_map]
    cases hz : zeroV P et with
    | none => cases shapeT P kt <;> simp
    | some z =>
      simp only [onSome_some]
      cases hm : mapAt h (evalA t m) with
      | none =>
        have hn := mapAt_none hm
        cases hs : shapeT P kt with
        | none =>
          simp only [onSome_none]
          cases e : evalA t m <;> first | rfl | skip
          rename_i b
          simp only
          cases hb : h b with
          | none => rfl
          | some c => cases c <;> first | rfl | simp
        | some sh =>
          simp only [onSome_some, onSome_none]
          cases e : evalA t m <;> first | rfl | skip
          rename_i b
          simp only
          cases hb : h b with
          | none => rfl
          | some c =>
            cases c <;> first | rfl | skip
            exact absurd ⟨e, hb⟩ (hn _ _ _)
      | some q =>
        obtain ⟨b, sh', es⟩ := q
        obtain ⟨e, hb⟩ := mapAt_spec hm
        rw [e]
        simp only [hb]
        cases hs : shapeT P kt with
        | none => simp
        | some sh => simp
def rangeA (P : Program) (xt : TypeId) (x : AV) : Option (List UInt8) := match P.underlying xt, x with | some .string, .str s => some s | _, _ => none
@[simp] theorem step_range {xt : TypeId} {x : Operand} : opStep P { dst := d, op := .range xt x, type := ty, pos := pos, after := af, guard := g } K t h = onSome (rangeA P xt (evalA t x)) fun s => newA h (.sit s 0) fun b h' => K (t.putO d (.ptr b 0)) h' := by
  simp only [opStep, opRes, effStep, rangeA]
  cases P.underlying xt with
  | none => rfl
  | some u => cases u <;> first | rfl | (cases evalA t x <;> rfl)
def sitAt (h : AHeap) (x : AV) : Option (Nat × List UInt8 × Nat) := match x with
  | .ptr b 0 => match h b with | some (.sit s p) => some (b, s, p) | _ => none
  | _ => none
@[simp] theorem sitAt_upd {b b' : Nat} {s : List UInt8} {p : Nat} : sitAt (h.upd b (.sit s p)) (.ptr b' 0) = if b' = b then some (b', s, p) else sitAt h (.ptr b' 0) := by
  unfold sitAt; by_cases e : b' = b <;> simp [e]
@[simp] theorem sitAt_upd_cells {b b' : Nat} {cs : List AV} : sitAt (h.upd b (.cells cs)) (.ptr b' 0) = if b' = b then none else sitAt h (.ptr b' 0) := by
  unfold sitAt; by_cases e : b' = b <;> simp [e]
@[simp] theorem sitAt_upd_map {b b' : Nat} {sh : KShape} {es : List (AV × AV)} : sitAt (h.upd b (.map sh es)) (.ptr b' 0) = if b' = b then none else sitAt h (.ptr b' 0) := by
  unfold sitAt; by_cases e : b' = b <;> simp [e]
theorem sitAt_eq {b : Nat} {s : List UInt8} {p : Nat} (e : h b = some (.sit s p)) : sitAt h (.ptr b 0) = some (b, s, p) := by simp [sitAt, e]
@[simp] theorem step_next {it : Operand} : opStep P { dst := d, op := .next it true, type := ty, pos := pos, after := af, guard := g } K t h = onSome (sitAt h (evalA t it)) fun q =>
    (q.2.2 < q.2.1.length → K (t.putO d (.tup [.bool true, .int .i64 q.2.2, .int .i32 (Utf8.decode ⟨q.2.1.toArray⟩ q.2.2).1])) (h.upd q.1 (.sit q.2.1 (q.2.2 + (Utf8.decode ⟨q.2.1.toArray⟩ q.2.2).2)))) ∧
    (¬ q.2.2 < q.2.1.length → K (t.putO d (.tup [.bool false])) h) := by
  simp only [opStep, opRes, effStep, sitAt]
  cases evalA t it <;> first | rfl | skip
  rename_i b off
  cases off with
  | succ n => rfl
  | zero =>
    simp only
    cases h b with
    | none => rfl
    | some c => cases c <;> rfl
def appendA (h : AHeap) (es : Nat) (s : AV) (k : Nat) (xs : List AV) (K : AV → AHeap → Prop) : Prop := match s with
  | .nilsl => (k = 0 → K .nilsl h) ∧ (k ≠ 0 → k < 2 ^ 30 ∧ newA h (.cells xs) fun b h' => K (.osl b 0 k es) h')
  | .osl b 0 n es' => es' = es ∧ n + k < 2 ^ 30 ∧ onSome (cellsAt h b 0) fun cs => cs.length = n * es ∧ newA (h.del b) (.cells (cs ++ xs)) fun b' h' => K (.osl b' 0 (n + k) es) h'
  | _ => False
theorem appendA_congr {es k k' : Nat} {s s' : AV} {xs xs' : List AV} {K : AV → AHeap → Prop} (eh : keep h = h') (el : s = s') (ek : k = k') (ec : xs = xs') : appendA h es s k xs K = appendA h' es s' k' xs' K := by rw [← eh, el, ek, ec, keep_eq]
@[simp] theorem appendA_nilsl {es k : Nat} {xs : List AV} {K : AV → AHeap → Prop} : appendA h es .nilsl k xs K = ((k = 0 → K .nilsl h) ∧ (k ≠ 0 → k < 2 ^ 30 ∧ newA h (.cells xs) fun b h' => K (.osl b 0 k es) h')) := nrfl rfl
@[simp] theorem appendA_osl {es k b n es' : Nat} {xs : List AV} {K : AV → AHeap → Prop} : appendA h es (.osl b 0 n es') k xs K = (es' = es ∧ n + k < 2 ^ 30 ∧ onSome (cellsAt h b 0) fun cs => cs.length = n * es ∧ newA (h.del b) (.cells (cs ++ xs)) fun b' h' => K (.osl b' 0 (n + k) es) h') := nrfl rfl
@[simp] theorem step_append {s x : Operand} {ts tx : TypeId} : opStep P { dst := d, op := .call { callee := .builtin .append, args := #[s, x], argTypes := #[ts, tx] }, type := ty, pos := pos, after := af, guard := g } K t h =
    onSome (elemT P ts) fun e => rowT P tx = true ∧ onSome (appXs h e.2.1 (evalA t x)) fun q => appendA h e.2.1 (evalA t s) q.1 q.2 fun r h' => K (t.putO d r) h' := by
  simp only [opStep, opRes, effStep]
  cases elemT P ts with
  | none => rfl
  | some e =>
    obtain ⟨e0, es, by_, z⟩ := e
    simp only [onSome_some]
    cases appXs h es (evalA t x) with
    | none => rfl
    | some q =>
      obtain ⟨k, xs⟩ := q
      simp only [onSome_some, appendA]
      congr 1
      cases evalA t s <;> first | rfl | skip
      rename_i b off n es'
      cases off with
      | succ n => rfl
      | zero =>
        simp only [cellsAt]
        cases h b with
        | none => rfl
        | some c => cases c <;> rfl
@[simp] theorem appXs_nil {es : Nat} : appXs h es .nilsl = some (0, []) := nrfl rfl
@[simp] theorem appXs_sl {es n : Nat} {cells : List AV} : appXs h es (.sl n cells) = if cells.length = n * es then some (n, cells) else none := nrfl rfl
@[simp] theorem appXs_str {es : Nat} {s : List UInt8} : appXs h es (.str s) = if es = 1 then some (s.length, s.map fun b => .int .u8 b.toNat) else none := nrfl rfl
@[simp] theorem appXs_osl {es b off n es' : Nat} : appXs h es (.osl b off n es') = (cellsAt h b off).bind fun cs => if es' = es ∧ n * es ≤ cs.length then some (n, cs.take (n * es)) else none := by
  simp only [appXs, cellsAt]
  cases h b with
  | none => rfl
  | some c =>
    cases c <;> rfl
def copyA (h : AHeap) (es : Nat) (dv : AV) (k : Nat) (xs : List AV) (K : AV → AHeap → Prop) : Prop := match dv with
  | .osl b off n es' => es' = es ∧ onSome (cellsAt h b 0) fun cs => off + n * es ≤ cs.length ∧ K (.int .i64 (min k n)) (h.upd b (.cells (splice cs off (xs.take (min k n * es)))))
  | _ => False
theorem copyA_congr {es k k' : Nat} {s s' : AV} {xs xs' : List AV} {K : AV → AHeap → Prop} (eh : keep h = h') (el : s = s') (ek : k = k') (ec : xs = xs') : copyA h es s k xs K = copyA h' es s' k' xs' K := by rw [← eh, el, ek, ec, keep_eq]
@[simp] theorem copyA_osl {es b off n es' k : Nat} {xs : List AV} {K : AV → AHeap → Prop} : copyA h es (.osl b off n es') k xs K = (es' = es ∧ onSome (cellsAt h b 0) fun cs => off + n * es ≤ cs.length ∧ K (.int .i64 (min k n)) (h.upd b (.cells (splice cs off (xs.take (min k n * es)))))) := nrfl rfl
@[simp] theorem step_copy {s x : Operand} {ts tx : TypeId} : opStep P { dst := d, op := .call { callee := .builtin .copy, args := #[s, x], argTypes := #[ts, tx] }, type := ty, pos := pos, after := af, guard := g } K t h =
    onSome (elemT P ts) fun e => onSome (appXs h e.2.1 (evalA t x)) fun q => copyA h e.2.1 (evalA t s) q.1 q.2 fun r h' => K (t.putO d r) h' := by
  simp only [opStep, opRes, effStep]
  cases elemT P ts with
  | none => rfl
  | some e =>
    obtain ⟨e0, es, by_, z⟩ := e
    simp only [onSome_some]
    cases appXs h es (evalA t x) with
    | none => rfl
    | some q =>
      obtain ⟨k, xs⟩ := q
      simp only [onSome_some, copyA]
      cases evalA t s <;> first | rfl | skip
      rename_i b off n es'
      simp only [cellsAt]
      cases h b with
      | none => rfl
      | some c => cases c <;> rfl
@[simp] theorem step_min {x : Operand} {xs : List Operand} {ats : Array TypeId} : opStep P { dst := d, op := .call { callee := .builtin .min, args := (x :: xs).toArray, argTypes := ats }, type := ty, pos := pos, after := af, guard := g } K t h =
    onSome (minA false (evalA t x) (xs.map (evalA t))) fun v => K (t.putO d v) h := by
  simp only [opStep, opRes, effStep]; cases minA false (evalA t x) (xs.map (evalA t)) <;> rfl
@[simp] theorem step_max {x : Operand} {xs : List Operand} {ats : Array TypeId} : opStep P { dst := d, op := .call { callee := .builtin .max, args := (x :: xs).toArray, argTypes := ats }, type := ty, pos := pos, after := af, guard := g } K t h =
    onSome (minA true (evalA t x) (xs.map (evalA t))) fun v => K (t.putO d v) h := by
  simp only [opStep, opRes, effStep]; cases minA true (evalA t x) (xs.map (evalA t)) <;> rfl
end
@[simp] theorem minA_nil {mx : Bool} {a : AV} : minA mx a [] = some a := by cases a <;> rfl
@[simp] theorem minA_cons {mx : Bool} {k k' : IntKind} {x y : Int} {rest : List AV} : minA mx (.int k x) (.int k' y :: rest) = minA mx (.int k (if (if mx then x < y else y < x) then y else x)) rest := nrfl rfl
end
end Go.AH
