/-
  Regions that draw their order: what is true of one order of evaluation, under checks made once by computation, is true of all.
-/
import Derived.Test.YtobhipohnjmnhaaAhSimp2
set_option linter.unusedSimpArgs false
set_option linter.unusedVariables false
set_option linter.unusedSectionVars false
namespace Go.AH
open Go

inductive Cls where | pur | read | new | oth
  deriving DecidableEq
def clsOf : Op → Cls
  | .move _ | .assign _ | .pick .. | .nilCheck _ | .binOp .. | .unOp .. | .makeInterface .. | .makeFunc .. | .fieldAddr .. | .field .. | .indexAddr .. | .index .. | .extract .. | .build .. => .pur
  | .slice _ _ _ _ none => .pur
  | .load .. | .convert .. | .lookup .. => .read
  | .alloc _ | .box .. | .buildSlice .. | .makeSlice .. | .makeMap _ none => .new
  | .call { callee := .builtin .len, .. } | .call { callee := .builtin .min, .. } | .call { callee := .builtin .max, .. } => .read
  | _ => .oth

noncomputable def lookA (P : Program) (t : AF) (h : AHeap) (mt : TypeId) (m k : Operand) (ok : Bool) : Option AV :=
  (mapT P mt).bind fun mm => mm.2.bind fun z => (mapAt h (evalA t m)).bind fun q =>
    if mm.1 = q.2.1 ∧ q.2.1.ok (evalA t k) = true then some (if ok then .tup [(mapGet q.2.2 (evalA t k)).getD z, .bool (mapGet q.2.2 (evalA t k)).isSome] else (mapGet q.2.2 (evalA t k)).getD z) else none
def mmA (mx : Bool) (t : AF) (xs : List Operand) : Option AV := match xs with | x :: rest => minA mx (evalA t x) (rest.map (evalA t)) | [] => none

noncomputable def valA (P : Program) (t : AF) (h : AHeap) (op : Op) : Option AV := match op with
  | .lookup mt m k ok => lookA P t h mt m k ok
  | .call { callee := .builtin .min, args, .. } => mmA false t args.toList
  | .call { callee := .builtin .max, args, .. } => mmA true t args.toList
  | op => pureA P t h op

def allocA (P : Program) (t : AF) : Op → Option (Chunk × (Nat → AV))
  | .alloc e => (zeroT P e).map fun z => (.cells z, fun b => .ptr b 0)
  | .box _ x => if (evalA t x).fit = true then some (.cells (evalA t x).cells, fun b => .ptr b 0) else none
  | .buildSlice ty len parts => (elemT P ty).bind fun e => (fillA (fun i => some (i * e.2.1, e.2.1)) (zcells e.2.2.2 len) (parts.toList.map fun p => (p.1, evalA t p.2))).bind fun cells =>
      if len ≤ 65536 ∧ e.2.1 ≤ 128 then some (.cells cells, fun b => .osl b 0 len e.2.1) else none
  | .makeSlice ty l c => (elemT P ty).bind fun e => match evalA t l, evalA t c with
    | .int _ l, .int _ c => if 0 ≤ l ∧ l ≤ c ∧ c < 2 ^ 30 then some (.cells (zcells e.2.2.2 l.toNat), fun b => .osl b 0 l.toNat e.2.1) else none
    | _, _ => none
  | .makeMap ty none => (mapT P ty).map fun m => (.map m.1 [], fun b => .map b)
  | _ => none

section
variable {P : Program} {t t' : AF} {h h' : AHeap} {o p : Oper} {ops : Array Oper} {K K' : AF → AHeap → Prop}

theorem onSome_bind {α β : Type} (o : Option α) (f : α → Option β) (K : β → Prop) : onSome (o.bind f) K = onSome o fun v => onSome (f v) K := by cases o <;> rfl
theorem onSome_if {α : Type} (c : Prop) [Decidable c] (x : α) (K : α → Prop) : onSome (if c then some x else none) K = (c ∧ K x) := by
  split <;> simp [*]

theorem opRes_val (R : AV → AHeap → Prop) (hc : clsOf o.op = .pur ∨ clsOf o.op = .read) : opRes P o t h R = onSome (valA P t h o.op) fun v => R v h := by
  obtain ⟨d, op, ty, pos, af, g⟩ := o
  simp only at hc ⊢
  unfold clsOf at hc
  split at hc <;> first | rfl | (simp at hc; done) | skip
  all_goals first
    | (simp only [valA]; rfl)
    | skip
  · rename_i mt m k ok
    have := step_lookup (P := P) (K := fun t h => R (t 0) h) (t := t) (h := h) (d := some 0) (ty := ty) (pos := pos) (af := af) (g := g) (mt := mt) (m := m) (k := k) (ok := ok)
    simp only [opStep, AF.putO_some, AF.put_same] at this
    rw [show opRes P { dst := d, op := .lookup mt m k ok, type := ty, pos := pos, after := af, guard := g } t h R = opRes P { dst := some 0, op := .lookup mt m k ok, type := ty, pos := pos, after := af, guard := g } t h R from rfl, this]
    simp only [valA, lookA, onSome_bind, onSome_if, and_assoc]
  · rename_i args ats
    simp only [opRes, effStep, valA, mmA]
    cases args.toList with
    | nil => rfl
    | cons x xs => simp only; cases minA false (evalA t x) (xs.map (evalA t)) <;> rfl
  · rename_i args ats
    simp only [opRes, effStep, valA, mmA]
    cases args.toList with
    | nil => rfl
    | cons x xs => simp only; cases minA true (evalA t x) (xs.map (evalA t)) <;> rfl

theorem opRes_new (R : AV → AHeap → Prop) (hc : clsOf o.op = .new) : opRes P o t h R = onSome (allocA P t o.op) fun q => newA h q.1 fun b h' => R (q.2 b) h' := by
  obtain ⟨d, op, ty, pos, af, g⟩ := o
  simp only at hc ⊢
  unfold clsOf at hc
  split at hc <;> first | (simp at hc; done) | skip
  · rename_i e
    simp only [opRes, effStep, allocA, onSome_map]; cases zeroT P e <;> rfl
  · simp only [opRes, effStep, allocA, onSome_if]; rfl
  · rename_i bt len parts
    simp only [opRes, effStep, allocA, onSome_bind]
    cases elemT P bt with
    | none => rfl
    | some e =>
      obtain ⟨e0, es, by_, z⟩ := e
      simp only [onSome_some, onSome_if]
      cases fillA (fun i => some (i * es, es)) (zcells z len) (parts.toList.map fun p => (p.1, evalA t p.2)) with
      | none => rfl
      | some cells => simp only [onSome_some, and_assoc]; rfl
  · rename_i st l c
    simp only [opRes, effStep, allocA, onSome_bind]
    cases elemT P st with
    | none => rfl
    | some e =>
      obtain ⟨e0, es, by_, z⟩ := e
      simp only [onSome_some]
      cases evalA t l <;> cases evalA t c <;> simp only [onSome_if, onSome_none, and_assoc] <;> rfl
  · rename_i mt
    simp only [opRes, effStep, allocA, onSome_map, mapT]
    cases P.underlying mt with
    | none => rfl
    | some u => cases u <;> first | rfl | (rename_i kt et; simp only [onSome_map]; cases shapeT P kt <;> rfl)

/-! ### An operation looks at its operands alone -/
theorem map_evalA {xs : List Operand} (e : ∀ x ∈ xs, evalA t x = evalA t' x) : xs.map (evalA t) = xs.map (evalA t') := List.map_congr_left e

theorem pureA_congr {op : Op} (e : ∀ x ∈ op.operands, evalA t x = evalA t' x) : pureA P t h op = pureA P t' h op := by
  cases op <;> first | rfl | (simp [Op.operands] at e; simp [pureA, e]; done) | skip
  all_goals simp only [Op.operands] at e
  · rename_i ty parts
    simp only [pureA]
    rw [show (parts.toList.map fun p => (p.1, evalA t p.2)) = parts.toList.map fun p => (p.1, evalA t' p.2) from List.map_congr_left fun p hp => by rw [e p.2 (by simp; exact ⟨p.1, by simpa using hp⟩)]]
  · rename_i f first caps
    simp only [pureA]
    rw [List.map_congr_left fun x hx => e x (by simp at hx ⊢; exact .inl hx), List.map_congr_left fun x hx => e x (by simp at hx ⊢; exact .inr hx)]
  · rename_i ty x lo hi mx
    have e1 := e x (by simp)
    have e2 : lo.map (evalA t) = lo.map (evalA t') := by
      cases lo with
      | none => rfl
      | some y => simp [e y (by simp)]
    have e3 : hi.map (evalA t) = hi.map (evalA t') := by
      cases hi with
      | none => rfl
      | some y => simp [e y (by simp)]
    cases mx with
    | none => simp only [pureA, e1, e2, e3]
    | some m => rfl
  · rename_i c
    obtain ⟨callee, args, ats⟩ := c
    cases callee <;> first | rfl | skip
    rename_i b
    cases b <;> first | rfl | skip
    have ea : ∀ x ∈ args.toList, evalA t x = evalA t' x := fun x hx => e x (by simpa [Call.operands] using hx)
    simp only [pureA]
    generalize args.toList = l at ea ⊢
    match l, ats.toList with
    | [], _ => rfl
    | [x], [] => rfl
    | [x], [ty] => simp only [ea x (by simp)]
    | [x], _ :: _ :: _ => rfl
    | _ :: _ :: _, _ => rfl

theorem opRes_congr (R : AV → AHeap → Prop) (e : ∀ x ∈ o.op.operands, evalA t x = evalA t' x) : opRes P o t h R = opRes P o t' h R := by
  obtain ⟨d, op, ty, pos, af, g⟩ := o
  simp only at e
  have hp := pureA_congr (P := P) (h := h) e
  cases op <;> first
    | (simp only [opRes, effStep]; rw [hp]; done)
    | (simp [Op.operands] at e; simp [opRes, effStep, e]; done)
    | skip
  all_goals simp only [Op.operands] at e
  · rename_i bt len parts
    simp only [opRes, effStep]
    rw [show (parts.toList.map fun p => (p.1, evalA t p.2)) = parts.toList.map fun p => (p.1, evalA t' p.2) from List.map_congr_left fun p hp => by rw [e p.2 (by simp; exact ⟨p.1, by simpa using hp⟩)]]
  · rename_i mt r
    cases r with
    | none => rfl
    | some r => simp only [opRes, effStep]; rw [hp]
  · rename_i it b
    have e1 := e it (by simp)
    cases b <;> simp only [opRes, effStep, e1, pureA]
  · rename_i c
    obtain ⟨callee, args, ats⟩ := c
    have ea : args.toList.map (evalA t) = args.toList.map (evalA t') := map_evalA fun x hx => e x (by simp only [Call.operands]; cases callee <;> simp at hx ⊢ <;> simp [hx])
    cases callee with
    | value f =>
      have ef := e f (by simp [Call.operands])
      simp only [opRes, ef, ea]
    | invoke r m => simp only [opRes, effStep]; rw [hp]
    | builtin b =>
      have ea2 : ∀ x ∈ args.toList, evalA t x = evalA t' x := fun x hx => e x (by simpa [Call.operands] using hx)
      cases b <;> first
        | (simp only [opRes, effStep]; rw [hp]; done)
        | skip
      all_goals
        simp only [opRes, effStep]
        generalize args.toList = l at ea ea2 ⊢
        generalize ats.toList = m
        first
          | (match l, m with
             | [], _ => rfl
             | [x], _ => rfl
             | [x, y], [] => rfl
             | [x, y], [_] => rfl
             | [x, y], [_, _] => simp only [ea2 x (by simp), ea2 y (by simp)]
             | [x, y], _ :: _ :: _ :: _ => rfl
             | _ :: _ :: _ :: _, _ => rfl)
          | (cases l with
             | nil => rfl
             | cons x xs => simp only [List.map_cons, List.cons.injEq] at ea; simp only [ea.1, ea.2])

/-! ### What is told of calls; reads of what is read-only -/
/-- A function value, its arguments, what it hands back. -/
abbrev Gam := List (AV × List AV × AV)
def Gam.ok (P : Program) : Gam → Prop
  | [] => True
  | e :: Γ => PureV P e.1 e.2.1 e.2.2 ∧ Gam.ok P Γ
open Classical in
noncomputable def gamGet : Gam → AV → List AV → Option AV
  | [], _, _ => none
  | e :: Γ, f, xs => if e.1 = f ∧ e.2.1 = xs then some e.2.2 else gamGet Γ f xs
theorem gamGet_ok {Γ : Gam} (hΓ : Γ.ok P) {f : AV} {xs : List AV} {r : AV} (e : gamGet Γ f xs = some r) : PureV P f xs r := by
  induction Γ with
  | nil => simp [gamGet] at e
  | cons q Γ ih =>
    simp only [gamGet] at e
    split at e
    · next hq => cases e; obtain ⟨h1, h2⟩ := hq; rw [← h1, ← h2]; exact hΓ.1
    · exact ih hΓ.2 e
theorem gamGet_here {Γ : Gam} {f : AV} {xs : List AV} {r : AV} : gamGet ((f, xs, r) :: Γ) f xs = some r := by simp [gamGet]
open Classical in
theorem gamGet_cons {Γ : Gam} {f g : AV} {xs ys : List AV} {r : AV} : gamGet ((g, ys, r) :: Γ) f xs = if g = f ∧ ys = xs then some r else gamGet Γ f xs := rfl
theorem gamGet_nil {f : AV} {xs : List AV} : gamGet [] f xs = none := rfl

def frozenA (P : Program) (lt : TypeId) (x : AV) : Option AV := match x with | .fptr cells => loadA P lt cells | _ => none
@[simp] theorem frozenA_fptr {lt : TypeId} {cells : List AV} : frozenA P lt (.fptr cells) = loadA P lt cells := nrfl rfl

def flag (fl : List Nat) (o : Oper) : Bool := match o.dst with | some d => fl.contains d | none => false

/-- The value of an operation that is told to hang on its operands alone. -/
noncomputable def valG (P : Program) (Γ : Gam) (t : AF) : Op → Option AV
  | .call { callee := .value f, args, .. } => gamGet Γ (evalA t f) (args.toList.map (evalA t))
  | .load lt x => frozenA P lt (evalA t x)
  | _ => none

noncomputable def resG (P : Program) (Γ : Gam) (fl : List Nat) (o : Oper) (t : AF) (h : AHeap) (R : AV → AHeap → Prop) : Prop :=
  if flag fl o = true then onSome (valG P Γ t o.op) fun v => R v h else opRes P o t h R
noncomputable def stepG (P : Program) (Γ : Gam) (fl : List Nat) (o : Oper) (K : AF → AHeap → Prop) (t : AF) (h : AHeap) : Prop := resG P Γ fl o t h fun r h' => K (t.putO o.dst r) h'

noncomputable def stepW (P : Program) (Γ : Gam) (fl : List Nat) (ops : Array Oper) (o : Oper) (K : AF → AHeap → Prop) (t : AF) (h : AHeap) : Prop :=
  match wantedA ops t o with
  | some true => stepG P Γ fl o K t h
  | some false => K (t.putO o.dst .undef) h
  | none => False

noncomputable def awpOpsG (P : Program) (Γ : Gam) (fl : List Nat) (ops : Array Oper) (K : AF → AHeap → Prop) : List Oper → AF → AHeap → Prop
  | [], t, h => K t h
  | o :: rest, t, h => stepW P Γ fl ops o (awpOpsG P Γ fl ops K rest) t h

theorem resG_op {Γ : Gam} (hΓ : Γ.ok P) {fl : List Nat} {R : AV → AHeap → Prop} (e : resG P Γ fl o t h R) : opRes P o t h R := by
  unfold resG at e
  split at e
  · next hfl =>
    rw [onSome_iff] at e
    obtain ⟨v, hv, k⟩ := e
    clear hfl
    obtain ⟨d, op, ty, pos, af, g⟩ := o
    cases op
    case load lt x =>
      simp only [valG, frozenA] at hv
      split at hv
      · next cells hx => simp only [opRes, effStep, pureA, hx, hv]; exact k
      · cases hv
    case call c =>
      obtain ⟨callee, args, ats⟩ := c
      cases callee with
      | value f =>
        simp only [valG] at hv
        have q := gamGet_ok hΓ hv h
        exact ACallV.mono q fun r' h' hh => by rw [hh.1, hh.2]; exact k
      | invoke r m => simp [valG] at hv
      | builtin b => simp [valG] at hv
    all_goals simp [valG] at hv
  · exact e

theorem stepG_mono {Γ : Gam} {fl : List Nat} (e : stepG P Γ fl o K t h) (hk : ∀ t h, K t h → K' t h) : stepG P Γ fl o K' t h := by
  unfold stepG resG at *
  split at e
  · next hf =>
    rw [if_pos hf]
    rw [onSome_iff] at e ⊢
    obtain ⟨v, hv, k⟩ := e
    exact ⟨v, hv, hk _ _ k⟩
  · next hf => rw [if_neg hf]; exact opRes_mono e fun _ _ q => hk _ _ q
theorem stepW_mono {Γ : Gam} {fl : List Nat} (e : stepW P Γ fl ops o K t h) (hk : ∀ t h, K t h → K' t h) : stepW P Γ fl ops o K' t h := by
  unfold stepW at *
  split at e
  · exact stepG_mono e hk
  · exact hk _ _ e
  · exact e.elim

/-! ### Exchange -/
def valCls : Cls → Bool | .pur | .read => true | _ => false
def clsG (fl : List Nat) (o : Oper) : Cls := if flag fl o then .pur else clsOf o.op

/-- The value of an operation that leaves memory alone. -/
noncomputable def vG (P : Program) (Γ : Gam) (fl : List Nat) (ops : Array Oper) (o : Oper) (t : AF) (h : AHeap) : Option AV :=
  match wantedA ops t o with
  | some true => if flag fl o = true then valG P Γ t o.op else valA P t h o.op
  | some false => some .undef
  | none => none

variable {Γ : Gam} {fl : List Nat}

theorem stepW_val (hc : valCls (clsG fl o) = true) : stepW P Γ fl ops o K t h = onSome (vG P Γ fl ops o t h) fun v => K (t.putO o.dst v) h := by
  unfold stepW vG
  cases hw : wantedA ops t o with
  | none => rfl
  | some b =>
    cases b with
    | false => rfl
    | true =>
      simp only [stepG, resG]
      split
      · rfl
      · next hf =>
        have : clsOf o.op = .pur ∨ clsOf o.op = .read := by
          unfold clsG at hc
          rw [if_neg (by simpa using hf)] at hc
          cases e : clsOf o.op <;> simp_all [valCls]
        exact opRes_val _ this

theorem wantedA_congr (e : ∀ d, d ∈ (match o.guard with | some (g, _) => ((ops[g]?).bind (·.dst)).toList | none => []) → t d = t' d) : wantedA ops t o = wantedA ops t' o := by
  unfold wantedA
  cases hg : o.guard with
  | none => rfl
  | some q =>
    obtain ⟨j, want⟩ := q
    simp only
    cases hd : (ops[j]?).bind (·.dst) with
    | none => rfl
    | some d =>
      have : t d = t' d := e d (by rw [hg]; simp [hd])
      simp only [this]

def Agree (ops : Array Oper) (o : Oper) (t t' : AF) : Prop := ∀ d ∈ o.looksAt ops, t d = t' d
theorem Agree.evalA (A : Agree ops o t t') : ∀ x ∈ o.op.operands, evalA t x = evalA t' x := by
  intro x hx
  cases x with
  | tmp d => exact A d (List.mem_append_left _ (List.mem_filterMap.2 ⟨.tmp d, by simpa using hx, rfl⟩))
  | const v => rfl
  | global b => rfl
  | func f => rfl
theorem Agree.wanted (A : Agree ops o t t') : wantedA ops t o = wantedA ops t' o := wantedA_congr fun d hd => A d (List.mem_append_right _ hd)
theorem Agree.put {d : Option Nat} {v : AV} (hd : ∀ i, d = some i → i ∉ o.looksAt ops) : Agree ops o (t.putO d v) t := by
  intro i hi
  cases d with
  | none => rfl
  | some j =>
    have hne : i ≠ j := fun e => hd j rfl (e ▸ hi)
    simp [AF.putO, AF.put, hne]
theorem Agree.symm (A : Agree ops o t t') : Agree ops o t' t := fun d hd => (A d hd).symm

theorem valG_congr {op : Op} (e : ∀ x ∈ op.operands, evalA t x = evalA t' x) : valG P Γ t op = valG P Γ t' op := by
  cases op <;> first | rfl | skip
  · rename_i lt x
    simp only [valG, e x (by simp [Op.operands])]
  · rename_i c
    obtain ⟨callee, args, ats⟩ := c
    cases callee with
    | value f =>
      have ef := e f (by simp [Op.operands, Call.operands])
      have ea : args.toList.map (evalA t) = args.toList.map (evalA t') := map_evalA fun x hx => e x (by simp at hx; simp [Op.operands, Call.operands, hx])
      simp only [valG, ef, ea]
    | invoke r m => rfl
    | builtin b => rfl

theorem valA_congr {op : Op} (e : ∀ x ∈ op.operands, evalA t x = evalA t' x) : valA P t h op = valA P t' h op := by
  have hp := pureA_congr (P := P) (h := h) e
  cases op <;> first | exact hp | skip
  · rename_i mt m k ok
    simp only [valA, lookA, e m (by simp [Op.operands]), e k (by simp [Op.operands])]
  · rename_i c
    obtain ⟨callee, args, ats⟩ := c
    cases callee with
    | value f => exact hp
    | invoke r m => exact hp
    | builtin b =>
      have ea : ∀ x ∈ args.toList, evalA t x = evalA t' x := fun x hx => e x (by simp at hx; simp [Op.operands, Call.operands, hx])
      cases b <;> first | exact hp | skip
      all_goals
        simp only [valA, mmA]
        generalize args.toList = l at ea ⊢
        cases l with
        | nil => rfl
        | cons x xs => simp only [ea x (by simp), map_evalA (xs := xs) fun y hy => ea y (List.mem_cons_of_mem _ hy)]

theorem vG_congr (A : Agree ops o t t') : vG P Γ fl ops o t h = vG P Γ fl ops o t' h := by
  unfold vG
  rw [A.wanted, valG_congr A.evalA, valA_congr A.evalA]

theorem stepW_congr (A : Agree ops o t t') (hk : ∀ v h', K (t.putO o.dst v) h' → K' (t'.putO o.dst v) h') (e : stepW P Γ fl ops o K t h) : stepW P Γ fl ops o K' t' h := by
  unfold stepW at *
  rw [← A.wanted]
  split at e
  · next hw =>
    simp only [stepG, resG] at e ⊢
    split at e
    · next hf =>
      rw [if_pos hf, ← valG_congr A.evalA]
      rw [onSome_iff] at e ⊢
      obtain ⟨v, hv, k⟩ := e
      exact ⟨v, hv, hk _ _ k⟩
    · next hf =>
      rw [if_neg hf, ← opRes_congr _ A.evalA]
      exact opRes_mono e fun v h' k => hk _ _ k
  · next hw => exact hk _ _ e
  · exact e.elim

/-- Heaps that grow. -/
def HLe (h h' : AHeap) : Prop := ∀ b c, h b = some c → h' b = some c
theorem HLe.upd {b : Nat} {c : Chunk} (e : h b = none) : HLe h (h.upd b c) := fun i d hd => by
  have : i ≠ b := fun e' => by rw [e', e] at hd; cases hd
  rw [AHeap.upd_ne this]; exact hd

theorem mapAt_le (x : HLe h h') {a : AV} {q : Nat × KShape × List (AV × AV)} (e : mapAt h a = some q) : mapAt h' a = some q := by
  obtain ⟨b, sh, es⟩ := q
  obtain ⟨rfl, hb⟩ := mapAt_spec e
  exact mapAt_eq (x _ _ hb)

theorem cellsOf_le (x : HLe h h') {a : AV} {q : List AV} (e : cellsOfSlice h a = some q) : cellsOfSlice h' a = some q := by
  cases a <;> simp only [cellsOfSlice] at e ⊢ <;> first | exact e | skip
  split at e
  · next cs hb => rw [x _ _ hb]; exact e
  · cases e

theorem valA_le (x : HLe h h') {op : Op} {v : AV} (e : valA P t h op = some v) : valA P t h' op = some v := by
  cases op
  case load lt y =>
    simp only [valA, pureA] at e ⊢
    split at e
    · next b off hy =>
      split at e
      · next cs hb => simp only [x _ _ hb]; exact e
      · cases e
    · next cells hy => exact e
    · cases e
  case convert s d y =>
    simp only [valA, pureA, convA] at e ⊢
    split at e <;> first | exact e | skip
    split at e <;> first | exact e | skip
    split at e <;> first | (cases e; done) | skip
    next h1 =>
    rw [if_pos h1]
    split at e
    · next cells hc => rw [cellsOf_le x hc]; exact e
    · cases e
  case lookup mt m k ok =>
    simp only [valA, lookA] at e ⊢
    cases hm : mapT P mt with
    | none => rw [hm] at e; cases e
    | some mm =>
      rw [hm] at e
      simp only [Option.bind_some] at e ⊢
      cases hz : mm.2 with
      | none => rw [hz] at e; cases e
      | some z =>
        rw [hz] at e
        simp only [Option.bind_some] at e ⊢
        cases hq : mapAt h (evalA t m) with
        | none => rw [hq] at e; cases e
        | some q => rw [hq] at e; rw [mapAt_le x hq]; exact e
  case call c =>
    obtain ⟨callee, args, ats⟩ := c
    cases callee with
    | value f => exact e
    | invoke r m => exact e
    | builtin b =>
      cases b <;> first | exact e | skip
      simp only [valA, pureA] at e ⊢
      split at e
      · next y ty ha hb =>
        simp only [lenA] at e ⊢
        split at e <;> first | exact e | skip
        next hu b hx =>
        split at e
        · next sh es hb => simp only [x _ _ hb]; exact e
        · cases e
      · cases e
  case slice a b c d m => cases m <;> exact e
  all_goals exact e

theorem vG_le (x : HLe h h') {v : AV} (e : vG P Γ fl ops o t h = some v) : vG P Γ fl ops o t h' = some v := by
  unfold vG at *
  split at e
  · split at e
    · next hf => rw [if_pos hf]; exact e
    · next hf => rw [if_neg hf]; exact valA_le x e
  · exact e
  · cases e

theorem valA_pur {op : Op} (hc : clsOf op = .pur) : valA P t h op = valA P t h' op := by
  cases op
  case call c =>
    obtain ⟨callee, args, ats⟩ := c
    cases callee with
    | value f => simp [clsOf] at hc
    | invoke r m => simp [clsOf] at hc
    | builtin b => cases b <;> simp [clsOf] at hc
  case slice a b c d m => cases m <;> first | rfl | (simp [clsOf] at hc; done)
  case makeMap a r => cases r <;> simp [clsOf] at hc
  all_goals first | rfl | (simp [clsOf] at hc; done)

theorem vG_pur (hc : clsG fl o = .pur) : vG P Γ fl ops o t h = vG P Γ fl ops o t h' := by
  unfold vG
  split
  · split
    · rfl
    · next hf =>
      unfold clsG at hc
      rw [if_neg (by simpa using hf)] at hc
      exact valA_pur hc
  · rfl
  · rfl

theorem AF.putO_comm {d d' : Option Nat} {v v' : AV} (hne : ∀ i, d = some i → d' ≠ some i) : (t.putO d v).putO d' v' = (t.putO d' v').putO d v := by
  cases d with
  | none => rfl
  | some i =>
    cases d' with
    | none => rfl
    | some j =>
      have : i ≠ j := fun e => hne i rfl (by rw [e])
      funext k
      simp only [AF.putO, AF.put]
      by_cases h1 : k = j <;> by_cases h2 : k = i <;> simp_all

/-- May x, which stands first, be taken behind y? -/
def swapOk (P : Program) (ops : Array Oper) (fl : List Nat) (x y : Oper) : Bool :=
  x.apart ops y && (match clsG fl x, clsG fl y with
    | .pur, _ => true
    | .read, .pur => true
    | .read, .read => true
    | .read, .new => y.guard.isNone
    | .new, .new => x.guard.isNone && y.guard.isNone && (match y.op with | .alloc e => (zeroT P e).isSome | _ => false)
    | _, _ => false)

theorem stepW_new {q : Option (Chunk × (Nat → AV))} (hc : clsG fl o = .new) (hg : o.guard = none) (hq : allocA P t o.op = q) : stepW P Γ fl ops o K t h = onSome q fun q => newA h q.1 fun b h' => K (t.putO o.dst (q.2 b)) h' := by
  have hf : ¬ flag fl o = true := by
    intro hf
    unfold clsG at hc
    rw [if_pos hf] at hc; cases hc
  have hc' : clsOf o.op = .new := by unfold clsG at hc; rwa [if_neg hf] at hc
  unfold stepW
  simp only [wantedA, hg, stepG, resG, if_neg hf]
  rw [opRes_new _ hc', hq]

theorem allocA_congr {op : Op} (e : ∀ x ∈ op.operands, evalA t x = evalA t' x) : allocA P t op = allocA P t' op := by
  cases op <;> first | rfl | skip
  all_goals simp only [Op.operands] at e
  all_goals try rfl
  · rename_i bt x
    simp only [allocA, e x (by simp)]
  · rename_i bt len parts
    simp only [allocA]
    rw [show (parts.toList.map fun p => (p.1, evalA t p.2)) = parts.toList.map fun p => (p.1, evalA t' p.2) from List.map_congr_left fun p hp => by rw [e p.2 (by simp; exact ⟨p.1, by simpa using hp⟩)]]
  · rename_i mt r
    cases r <;> rfl
  · rename_i st l c
    simp only [allocA, e l (by simp), e c (by simp)]

theorem swap {x y : Oper} (hs : swapOk P ops fl x y = true) (e : stepW P Γ fl ops x (stepW P Γ fl ops y K) t h) : stepW P Γ fl ops y (stepW P Γ fl ops x K) t h := by
  simp only [swapOk, Bool.and_eq_true] at hs
  obtain ⟨hap, hc⟩ := hs
  obtain ⟨a1, a2, a3⟩ := Oper.apart_spec hap
  -- x hangs on no memory, or y turns none
  have key : (valCls (clsG fl x) = true) → (∀ t1 h1 v, vG P Γ fl ops x t1 h1 = some v → ∀ K', stepW P Γ fl ops y K' t1 h1 → stepW P Γ fl ops y (fun t' h' => K' t' h' ∧ vG P Γ fl ops x t1 h' = some v) t1 h1) → stepW P Γ fl ops y (stepW P Γ fl ops x K) t h := by
    intro hv hst
    rw [stepW_val hv, onSome_iff] at e
    obtain ⟨v, hv1, e⟩ := e
    have e2 : stepW P Γ fl ops y (fun t' h' => K (t'.putO x.dst v) h') t h := by
      refine stepW_congr (Agree.put a1) (fun u h' k => ?_) e
      rw [AF.putO_comm a2] at k
      exact k
    have e3 := hst t h v hv1 _ e2
    refine stepW_congr (K := fun t' h' => K (t'.putO x.dst v) h' ∧ vG P Γ fl ops x t h' = some v) (fun d _ => rfl) (fun u h' k => ?_) e3
    rw [stepW_val hv, onSome_iff]
    refine ⟨v, ?_, k.1⟩
    rw [vG_congr (Agree.put a3)]; exact k.2
  have still : ∀ (t1 : AF) (h1 : AHeap) (v : AV), valCls (clsG fl y) = true → vG P Γ fl ops x t1 h1 = some v → ∀ K' : AF → AHeap → Prop, stepW P Γ fl ops y K' t1 h1 → stepW P Γ fl ops y (fun t' h' => K' t' h' ∧ vG P Γ fl ops x t1 h' = some v) t1 h1 := by
    intro t1 h1 v hy hx K' e
    rw [stepW_val hy, onSome_iff] at e ⊢
    obtain ⟨u, hu, k⟩ := e
    exact ⟨u, hu, k, hx⟩
  cases hx : clsG fl x <;> rw [hx] at hc
  case pur =>
    -- x hangs on its operands alone
    refine key (by rw [hx]; rfl) fun t1 h1 v hv K' e => stepW_congr (fun d _ => rfl) (fun u h' k => ?_) e
    exact ⟨k, (vG_pur hx).trans hv⟩
  case read =>
    cases hy : clsG fl y <;> rw [hy] at hc
    case pur => exact key (by rw [hx]; rfl) fun t1 h1 v hv K' e => still t1 h1 v (by rw [hy]; rfl) hv K' e
    case read => exact key (by rw [hx]; rfl) fun t1 h1 v hv K' e => still t1 h1 v (by rw [hy]; rfl) hv K' e
    case new =>
      have hg : y.guard = none := by simpa using hc
      refine key (by rw [hx]; rfl) fun t1 h1 v hv K' e => ?_
      rw [stepW_new hy hg rfl, onSome_iff] at e ⊢
      obtain ⟨q, hq, e⟩ := e
      exact ⟨q, hq, fun b hb => ⟨e b hb, vG_le (HLe.upd hb) hv⟩⟩
    case oth => cases hc
  case new =>
    cases hy : clsG fl y <;> rw [hy] at hc <;> first | (cases hc; done) | skip
    simp only [Bool.and_eq_true] at hc
    have hgx : x.guard = none := by simpa using hc.1.1
    have hgy : y.guard = none := by simpa using hc.1.2
    have hal := hc.2
    rw [stepW_new hx hgx rfl, onSome_iff] at e
    obtain ⟨q, hq, e⟩ := e
    have ey : ∀ b, Fresh h b → onSome (allocA P t y.op) fun q' => newA (h.upd b q.1) q'.1 fun b' h' => K ((t.putO x.dst (q.2 b)).putO y.dst (q'.2 b')) h' := by
      intro b hb
      have := e b hb
      simp only at this
      rw [stepW_new hy hgy rfl, allocA_congr (Agree.put (o := y) a1).evalA] at this
      exact this
    rw [stepW_new hy hgy rfl]
    cases hqy : allocA P t y.op with
    | none =>
      exfalso
      cases hyo : y.op <;> rw [hyo] at hal hqy <;> first | (cases hal; done) | skip
      simp only [allocA, Option.map_eq_none_iff] at hqy
      simp only [hqy] at hal
      cases hal
    | some q' =>
      rw [hqy] at ey
      simp only [onSome_some] at ey ⊢
      intro b' hb'
      rw [stepW_new hx hgx rfl, allocA_congr (Agree.put (o := x) a3).evalA, hq]
      simp only [onSome_some]
      intro b hb
      rw [fresh_upd] at hb
      obtain ⟨n1, n2, hb⟩ := hb
      have k := ey b hb b' (by rw [fresh_upd]; exact ⟨n2, n1, hb'⟩)
      simp only at k ⊢
      rw [AF.putO_comm a2, AHeap.upd_comm n1] at k
      exact k
  case oth => cases hc

/-! ### All orders -/
/-- Does i come behind j, whatever the order? -/
def anc (ops : Array Oper) : Nat → Nat → Nat → Bool
  | 0, _, _ => false
  | k + 1, i, j => match ops[i]? with
    | some o => o.after.any (fun e => Region.binds .any e && e.on == j) || o.after.any (fun e => Region.binds .any e && anc ops k e.on j)
    | none => false

/-- Every operation's forerunners stand ahead of it. -/
def ordOk (ops : Array Oper) : List Nat → List Nat → Bool
  | _, [] => true
  | done, i :: rest => (match ops[i]? with
      | some o => o.after.all fun e => !Region.binds .any e || done.contains e.on
      | none => false) && !done.contains i && ordOk ops (i :: done) rest
def pairsOk (P : Program) (ops : Array Oper) (fl : List Nat) : List Nat → Bool
  | [] => true
  | i :: rest => rest.all (fun j => anc ops ops.size j i || (match ops[i]?, ops[j]? with | some x, some y => swapOk P ops fl x y | _, _ => false)) && pairsOk P ops fl rest
def drawOk (P : Program) (ops : Array Oper) (fl ord : List Nat) : Bool := ordOk ops [] ord && pairsOk P ops fl ord && (List.range ops.size).all ord.contains && decide (ord.length = ops.size)

def opersOf (ops : Array Oper) (l : List Nat) : List Oper := l.filterMap (ops[·]?)

theorem bubble {i : Nat} {oi : Oper} (hi : ops[i]? = some oi) : ∀ (A B : List Nat) (t : AF) (h : AHeap), (∀ a ∈ A, ∃ oa, ops[a]? = some oa ∧ swapOk P ops fl oa oi = true) →
    awpOpsG P Γ fl ops K (opersOf ops (A ++ i :: B)) t h → awpOpsG P Γ fl ops K (opersOf ops (i :: (A ++ B))) t h
  | [], B, t, h, _, e => e
  | a :: A, B, t, h, hA, e => by
    obtain ⟨oa, ha, hs⟩ := hA a (by simp)
    have e1 : awpOpsG P Γ fl ops K (oa :: opersOf ops (A ++ i :: B)) t h := by simpa [opersOf, ha] using e
    have e2 : stepW P Γ fl ops oa (stepW P Γ fl ops oi (awpOpsG P Γ fl ops K (opersOf ops (A ++ B)))) t h := by
      refine stepW_mono e1 fun t h k => ?_
      have := bubble hi A B t h (fun b hb => hA b (by simp [hb])) k
      simpa [opersOf, hi, awpOpsG] using this
    have e3 := swap hs e2
    simpa [opersOf, hi, ha, awpOpsG] using e3
end

section
variable {P : Program} {w : World} {h hf : AHeap} {t : AF} {a : Act} {o : Oper} {N B : Nat} {ro : Option Nat} {ops : Array Oper} {K : AF → AHeap → Prop} {Γ : Gam} {fl : List Nat}

theorem stepW_sound (G : Good w h hf a t N B) (hk : opsOk N ops = true) (hΓ : Γ.ok P) {i : Nat} (hi : ops[i]? = some o) (e : stepW P Γ fl ops o K t h) (Q : Exit → Act → World → Prop) (K' : Act → World → Prop)
    (hK : ∀ a' w', To w h hf N B K a' w' → K' a' w') : wpOpIn (fence ro) 0 P ops Q i K' a w := by
  obtain ⟨hd, hdef, _⟩ := opsOk_spec hk hi
  unfold stepW at e
  unfold wpOpIn
  rw [hi]
  split at e
  · next hw =>
    simp only [wanted_of G (guard_spec hk) hw, if_true]
    have e' : opStep P o K t h := resG_op hΓ e
    exact Oper.wpIn_mono hK (opStep_sound G hd hdef e' Q)
  · next hw =>
    simp only [wanted_of G (guard_spec hk) hw, Bool.false_eq_true, if_false]
    exact ⟨fun _ _ => trivial, hK _ _ (To.refl (G.skip hd) e)⟩
  · exact e.elim

theorem anc_listed {listed : Array Bool} (hdown : ∀ x ox, ops[x]? = some ox → listed.getD x false = true → ∀ e ∈ ox.after, Region.binds .any e = true → listed.getD e.on false = true) :
    ∀ (k i j : Nat) (oi : Oper), ops[i]? = some oi → (∀ e ∈ oi.after, Region.binds .any e = true → listed.getD e.on false = true) → anc ops k i j = true → listed.getD j false = true
  | 0, _, _, _, _, _, e => by simp [anc] at e
  | k + 1, i, j, oi, hi, hall, e => by
    simp only [anc, hi, Bool.or_eq_true] at e
    rcases e with e | e
    · rw [Array.any_eq_true'] at e
      obtain ⟨ed, hed, e⟩ := e
      simp only [Bool.and_eq_true, beq_iff_eq] at e
      rw [← e.2]; exact hall ed hed e.1
    · rw [Array.any_eq_true'] at e
      obtain ⟨ed, hed, e⟩ := e
      simp only [Bool.and_eq_true] at e
      have hl := hall ed hed e.1
      cases ho : ops[ed.on]? with
      | none => cases k <;> simp [anc, ho] at e
      | some o' => exact anc_listed hdown k ed.on j o' ho (hdown _ _ ho hl) e.2

theorem pairs_swap : ∀ (A : List Nat) (i : Nat) (B : List Nat), pairsOk P ops fl (A ++ i :: B) = true → ∀ a ∈ A, anc ops ops.size i a = true ∨ ∃ oa oi, ops[a]? = some oa ∧ ops[i]? = some oi ∧ swapOk P ops fl oa oi = true
  | [], _, _, _, a, ha => by simp at ha
  | b :: A, i, B, e, a, ha => by
    simp only [List.cons_append, pairsOk, Bool.and_eq_true] at e
    rcases List.mem_cons.1 ha with rfl | ha
    · have := List.all_eq_true.1 e.1 i (by simp)
      simp only [Bool.or_eq_true] at this
      rcases this with h1 | h1
      · exact .inl h1
      · split at h1
        · next x y hx hy => exact .inr ⟨x, y, hx, hy, h1⟩
        · cases h1
    · exact pairs_swap A i B e.2 a ha

theorem pairs_drop : ∀ (A : List Nat) (i : Nat) (B : List Nat), pairsOk P ops fl (A ++ i :: B) = true → pairsOk P ops fl (A ++ B) = true
  | [], _, _, e => by simp only [List.nil_append, pairsOk, Bool.and_eq_true] at e; exact e.2
  | b :: A, i, B, e => by
    simp only [List.cons_append, pairsOk, Bool.and_eq_true] at e ⊢
    refine ⟨?_, pairs_drop A i B e.2⟩
    rw [List.all_eq_true] at e ⊢
    intro x hx
    exact e.1 x (by simp at hx ⊢; rcases hx with hx | hx <;> simp [hx])

def OrdP (ops : Array Oper) (S : Nat → Prop) : List Nat → Prop
  | [] => True
  | i :: rest => (∃ o, ops[i]? = some o ∧ ∀ e ∈ o.after, Region.binds .any e = true → S e.on) ∧ OrdP ops (fun j => S j ∨ j = i) rest

theorem OrdP.mono : ∀ (L : List Nat) {S S' : Nat → Prop}, (∀ j, S j → S' j) → OrdP ops S L → OrdP ops S' L
  | [], _, _, _, _ => trivial
  | i :: L, S, S', hs, e => by
    obtain ⟨⟨o, ho, ha⟩, e2⟩ := e
    refine ⟨⟨o, ho, fun ed hed hb => hs _ (ha ed hed hb)⟩, OrdP.mono L (fun j => ?_) e2⟩
    rintro (q | q)
    · exact .inl (hs _ q)
    · exact .inr q

theorem OrdP.drop : ∀ (A : List Nat) (i : Nat) (B : List Nat) {S : Nat → Prop}, OrdP ops S (A ++ i :: B) → OrdP ops (fun j => S j ∨ j = i) (A ++ B)
  | [], _, _, _, e => e.2
  | b :: A, i, B, S, e => by
    obtain ⟨⟨o, ho, ha⟩, e2⟩ := e
    refine ⟨⟨o, ho, fun ed hed hb => .inl (ha ed hed hb)⟩, OrdP.mono _ (fun j => ?_) (OrdP.drop A i B e2)⟩
    rintro ((q | q) | q)
    · exact .inl (.inl q)
    · exact .inr q
    · exact .inl (.inr q)

theorem ordP_of : ∀ (L done : List Nat), ordOk ops done L = true → OrdP ops (· ∈ done) L
  | [], _, _ => trivial
  | i :: L, done, e => by
    simp only [ordOk, Bool.and_eq_true] at e
    obtain ⟨⟨e1, e2⟩, e3⟩ := e
    refine ⟨?_, OrdP.mono L (fun j hj => ?_) (ordP_of L _ e3)⟩
    · split at e1
      · next o ho =>
        refine ⟨o, ho, fun ed hed hb => ?_⟩
        have := (Array.all_eq_true_iff_forall_mem.1 e1) ed hed
        simp only [hb, Bool.not_true, Bool.false_or] at this
        simpa using this
      · cases e1
    · rcases List.mem_cons.1 hj with h1 | h1
      · exact .inr h1
      · exact .inl h1

theorem ordOk_nodup : ∀ (L done : List Nat), ordOk ops done L = true → L.Nodup ∧ ∀ i ∈ L, i ∉ done
  | [], _, _ => ⟨List.nodup_nil, fun i hi => absurd hi (by simp)⟩
  | i :: L, done, e => by
    simp only [ordOk, Bool.and_eq_true] at e
    obtain ⟨⟨e1, e2⟩, e3⟩ := e
    obtain ⟨q1, q2⟩ := ordOk_nodup L _ e3
    refine ⟨List.nodup_cons.2 ⟨fun hi => q2 i hi (by simp), q1⟩, fun j hj => ?_⟩
    rcases List.mem_cons.1 hj with rfl | hj
    · simpa using e2
    · exact fun hd => q2 j hj (by simp [hd])

/-- **The region's rule: one order of evaluation for all.** -/
theorem any_sound (hk : opsOk N ops = true) (hΓ : Γ.ok P) {Q : Exit → Act → World → Prop} : ∀ (fuel : Nat) (L : List Nat) (listed : Array Bool) (t : AF) (h : AHeap) (a : Act) (w : World),
    L.length = fuel → listed.size = ops.size → (∀ i, i < ops.size → (i ∈ L ↔ listed.getD i false = false)) → (∀ i ∈ L, i < ops.size) → L.Nodup → pairsOk P ops fl L = true →
    (∀ x ox, ops[x]? = some ox → listed.getD x false = true → ∀ e ∈ ox.after, Region.binds .any e = true → listed.getD e.on false = true) →
    OrdP ops (fun j => listed.getD j false = true) L →
    Good w h hf a t N B → awpOpsG P Γ fl ops K (opersOf ops L) t h → (∀ a' w', To w h hf N B K a' w' → Q .normal a' w') → wpAnyIn (fence ro) 0 P .any ops Q fuel listed a w := by
  intro fuel
  induction fuel with
  | zero =>
    intro L listed t h a w hl hsz hmem hlt hnd hp hdown hord G e hq
    have hL : L = [] := List.eq_nil_of_length_eq_zero hl
    subst hL
    refine ⟨?_, hq _ _ (To.refl G e)⟩
    rw [List.eq_nil_iff_forall_not_mem]
    intro j hj
    obtain ⟨h0, o, ho, _⟩ := mem_ready.1 hj
    have hjlt : j < ops.size := (Array.getElem?_eq_some_iff.1 ho).1
    have hjl : j < listed.size := by rw [hsz]; exact hjlt
    have : j ∈ ([] : List Nat) := (hmem j hjlt).2 (by simp [Array.getD_eq_getD_getElem?, hjl] at h0 ⊢; exact h0)
    simp at this
  | succ fuel ih =>
    intro L listed t h a w hl hsz hmem hlt hnd hp hdown hord G e hq
    have conv : ∀ j, j < ops.size → (listed.getD j true = listed.getD j false) := by
      intro j hj
      have hjl : j < listed.size := by rw [hsz]; exact hj
      simp [Array.getD_eq_getD_getElem?, hjl]
    refine ⟨fun hr => ?_, fun i hi => ?_⟩
    · cases hL : L with
      | nil => rw [hL] at hl; simp at hl
      | cons x L' =>
        rw [hL] at hord
        obtain ⟨⟨ox, hox, hall⟩, _⟩ := hord
        have hx : x ∈ Region.ready .any ops listed := by
          have hxl := hlt x (by rw [hL]; simp)
          exact mem_ready.2 ⟨by rw [conv x hxl]; exact (hmem x hxl).1 (by rw [hL]; simp), ox, hox, hall⟩
        rw [hr] at hx; simp at hx
    · obtain ⟨h0, oi, hoi, hall⟩ := mem_ready.1 hi
      have hilt : i < ops.size := (Array.getElem?_eq_some_iff.1 hoi).1
      have hil : i < listed.size := by rw [hsz]; exact hilt
      rw [conv i hilt] at h0
      have hiL := (hmem i hilt).2 h0
      obtain ⟨A, B', hAB⟩ := List.append_of_mem hiL
      rw [hAB] at e hp hord hnd
      have hsw : ∀ b ∈ A, ∃ ob, ops[b]? = some ob ∧ swapOk P ops fl ob oi = true := by
        intro b hb
        rcases pairs_swap A i B' hp b hb with q | ⟨ob, oi', q1, q2, q3⟩
        · have h1 := anc_listed hdown ops.size i b oi hoi hall q
          have hbl := hlt b (by rw [hAB]; simp [hb])
          have h2 := (hmem b hbl).1 (by rw [hAB]; simp [hb])
          rw [h1] at h2; cases h2
        · rw [hoi] at q2; cases q2
          exact ⟨ob, q1, q3⟩
      have e1 := bubble hoi A B' t h hsw e
      have e2 : stepW P Γ fl ops oi (awpOpsG P Γ fl ops K (opersOf ops (A ++ B'))) t h := by simpa [opersOf, hoi, awpOpsG] using e1
      have hset : ∀ j, (listed.setIfInBounds i true).getD j false = true ↔ (listed.getD j false = true ∨ j = i) := by
        intro j
        by_cases hji : i = j
        · subst hji; simp [hil]
        · rw [getD_set_ne false hji]
          constructor
          · exact .inl
          · rintro (q | q)
            · exact q
            · exact absurd q.symm hji
      refine stepW_sound G hk hΓ hoi e2 Q _ fun a' w' T => ?_
      obtain ⟨t', h', k, G', s⟩ := T
      refine ih (A ++ B') (listed.setIfInBounds i true) t' h' a' w' ?_ (by simpa using hsz) (fun j hj => ?_) (fun j hj => hlt j ?_) ?_ (pairs_drop A i B' hp) (fun x ox hox hx => ?_) ?_ G' k (fun a'' w'' T => hq _ _ (T.trans s))
      · rw [hAB] at hl; simp at hl ⊢; omega
      · have := hset j
        have hm := hmem j hj
        rw [hAB] at hm
        have hni : i ∉ A ++ B' := by
          have := hnd
          rw [List.nodup_append] at this
          simp at this ⊢
          obtain ⟨_, ⟨h2, _⟩, h3⟩ := this
          exact ⟨fun ha => (h3 i ha).1 rfl, h2⟩
        constructor
        · intro hjm
          have hne : j ≠ i := fun e => hni (e ▸ hjm)
          have h1 := hm.1 (by simp at hjm ⊢; rcases hjm with q | q <;> simp [q])
          rw [getD_set_ne false (Ne.symm hne)]; exact h1
        · intro hjf
          have hne : j ≠ i := fun e => by
            rw [(hset j).2 (.inr e)] at hjf; cases hjf
          rw [getD_set_ne false (Ne.symm hne)] at hjf
          have := hm.2 hjf
          simp at this ⊢
          rcases this with q | q | q
          · exact .inl q
          · exact absurd q hne
          · exact .inr q
      · rw [hAB]; simp at hj ⊢; rcases hj with q | q <;> simp [q]
      · rw [List.nodup_append] at hnd ⊢
        simp at hnd ⊢
        obtain ⟨n1, ⟨n2, n3⟩, n4⟩ := hnd
        exact ⟨n1, n3, fun b hb c hc => (n4 b hb).2 c hc⟩
      · intro ed hed hb
        rw [hset] at hx ⊢
        rcases hx with hx | hx
        · exact .inl (hdown x ox hox hx ed hed hb)
        · subst hx
          rw [hoi] at hox; cases hox
          exact .inl (hall ed hed hb)
      · exact OrdP.mono _ (fun j => (hset j).2) (OrdP.drop A i B' hord)

/-- **A region that draws its order.** ord: one order that the text allows; fl: slots whose operations are told to hang on their operands alone (loads of what is read-only; calls that Γ tells of). -/
theorem awp_draws {id : Nat} {Q : Exit → AF → AHeap → Prop} (hm : P.follows .mixedOrders = true) (fl ord : List Nat) (Γ : Gam) (hk : opsOk N ops = true) (ho : drawOk P ops fl ord = true) (hΓ : Γ.ok P)
    (e : awpOpsG P Γ fl ops (Q .normal) (opersOf ops ord) t h) : AWP P ro N (.region id ops true) Q t h := by
  intro hf B w a G
  simp only [drawOk, Bool.and_eq_true] at ho
  obtain ⟨⟨⟨o1, o2⟩, o3⟩, o4⟩ := ho
  have o4 : ord.length = ops.size := by simpa using o4
  have G1 : Good { w with drawn := w.drawn + 1 } h hf a t N B :=
    ⟨G.disj, G.rel.drew, fun i => (G.frame i).ext (Ext.refl w (h.un hf)).drew, G.size, G.defers.ext (Ext.refl w (h.un hf)).drew, G.base⟩
  have s1 : Stp w h hf { w with drawn := w.drawn + 1 } h := ⟨(Ext.refl w (h.un hf)).drew, fun _ _ => rfl⟩
  refine wpIn_region_any hm (any_sound (fl := fl) (Γ := Γ) (K := Q .normal) hk hΓ ops.size ord (Array.replicate ops.size false) t h a _ o4 (by simp) (fun i hi => ?_) (fun i hi => ?_) (ordOk_nodup _ _ o1).1 o2 (fun x ox hox hx => ?_) ?_ G1 e (fun a' w' T => T.trans s1))
  · have := List.all_eq_true.1 o3 i (by simpa using hi)
    simp at this
    simp [this, hi]
  · have key : ∀ (L done : List Nat), ordOk ops done L = true → ∀ i ∈ L, i < ops.size := by
      intro L
      induction L with
      | nil => intro done _ i hi; simp at hi
      | cons x L ih =>
        intro done e i hi
        simp only [ordOk, Bool.and_eq_true] at e
        rcases List.mem_cons.1 hi with rfl | hi
        · obtain ⟨⟨e1, _⟩, _⟩ := e
          split at e1
          · next o ho => exact (Array.getElem?_eq_some_iff.1 ho).1
          · cases e1
        · exact ih _ e.2 i hi
    exact key ord [] o1 i hi
  · have : x < ops.size := (Array.getElem?_eq_some_iff.1 hox).1
    simp [this] at hx
  · exact OrdP.mono _ (fun j hj => by simp at hj) (ordP_of ord [] o1)
end
end Go.AH
