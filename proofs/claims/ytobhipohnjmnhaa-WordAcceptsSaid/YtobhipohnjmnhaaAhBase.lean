/-
  What walks over this program's functions have in common: the regions that draw, as rewrite rules; numbers; values handed back.
-/
import Derived.Test.YtobhipohnjmnhaaAhRange
set_option linter.unusedSimpArgs false
set_option linter.unusedVariables false
set_option linter.unusedSectionVars false
namespace Go.AH
open Go

section
variable {P : Program} {Γ : Gam} {fl : List Nat} {ops : Array Oper} {K : AF → AHeap → Prop} {t t' : AF} {h h' : AHeap} {d : Option Nat} {op : Op} {ty : TypeId} {pos : String} {af : Array Edge}

@[simp] theorem awpOpsG_nil : awpOpsG P Γ fl ops K [] t h = K t h := nrfl rfl
@[simp] theorem awpOpsG_cons {o : Oper} {os : List Oper} : awpOpsG P Γ fl ops K (o :: os) t h = stepW P Γ fl ops o (awpOpsG P Γ fl ops K os) t h := nrfl rfl
@[simp] theorem stepW_plain : stepW P Γ fl ops { dst := d, op := op, type := ty, pos := pos, after := af, guard := none } K t h = stepG P Γ fl { dst := d, op := op, type := ty, pos := pos, after := af, guard := none } K t h := nrfl rfl
@[simp] theorem stepW_guard {j : Nat} {want : Bool} : stepW P Γ fl ops { dst := d, op := op, type := ty, pos := pos, after := af, guard := some (j, want) } K t h =
    onSome ((ops[j]?).bind (·.dst)) fun g => guardA (t g) want (stepG P Γ fl { dst := d, op := op, type := ty, pos := pos, after := af, guard := some (j, want) } K t h) (K (t.putO d .undef) h) := by
  simp only [stepW, wantedA]
  cases (ops[j]?).bind (·.dst) with
  | none => rfl
  | some g =>
    simp only [onSome_some]
    cases t g <;> simp [guardA]
    rename_i b
    cases b <;> cases want <;> simp
@[simp] theorem flag_some {i : Nat} {g : Option (Nat × Bool)} : flag fl { dst := some i, op := op, type := ty, pos := pos, after := af, guard := g } = fl.contains i := nrfl rfl
@[simp] theorem flag_none {g : Option (Nat × Bool)} : flag fl { dst := none, op := op, type := ty, pos := pos, after := af, guard := g } = false := nrfl rfl
@[simp] theorem stepG_flag {g : Option (Nat × Bool)} : stepG P Γ fl { dst := d, op := op, type := ty, pos := pos, after := af, guard := g } K t h =
    if flag fl { dst := d, op := op, type := ty, pos := pos, after := af, guard := g } = true then onSome (valG P Γ t op) fun v => K (t.putO d v) h
    else opStep P { dst := d, op := op, type := ty, pos := pos, after := af, guard := g } K t h := nrfl rfl
@[simp] theorem valG_call {f : Operand} {args : Array Operand} {ats : Array TypeId} : valG P Γ t (.call { callee := .value f, args := args, argTypes := ats }) = gamGet Γ (evalA t f) (args.toList.map (evalA t)) := nrfl rfl
@[simp] theorem valG_load {lt : TypeId} {x : Operand} : valG P Γ t (.load lt x) = frozenA P lt (evalA t x) := nrfl rfl
attribute [simp] gamGet_cons gamGet_nil
theorem stepW_bar {o : Oper} (e : keep t = t') (e' : h = h') : stepW P Γ fl ops o K t h = stepW P Γ fl ops o K t' h' := by rw [← e, e', keep_eq]
theorem stepG_bar {o : Oper} (e : keep t = t') (e' : h = h') : stepG P Γ fl o K t h = stepG P Γ fl o K t' h' := by rw [← e, e', keep_eq]
theorem awpOpsG_bar {os : List Oper} (e : keep t = t') (e' : h = h') : awpOpsG P Γ fl ops K os t h = awpOpsG P Γ fl ops K os t' h' := by rw [← e, e', keep_eq]
@[simp] theorem Gam.ok_nil : Gam.ok P [] = True := nrfl rfl
@[simp] theorem Gam.ok_cons {e : AV × List AV × AV} : Gam.ok P (e :: Γ) = (PureV P e.1 e.2.1 e.2.2 ∧ Gam.ok P Γ) := nrfl rfl

theorem opersOf_range (ops : Array Oper) : opersOf ops (List.range ops.size) = ops.toList := by
  unfold opersOf
  have := congrArg (List.filterMap id) (range_map ops)
  simpa [List.filterMap_map] using this
/-- A region that draws: the order of the text serves. -/
theorem awp_draw_text {N : Nat} {ro : Option Nat} {id : Nat} {Q : Exit → AF → AHeap → Prop} {l : List Oper} (hm : P.follows .mixedOrders = true) (fl : List Nat) (Γ : Gam) (hk : opsOk N l.toArray = true) (ho : drawOk P l.toArray fl (List.range l.toArray.size) = true) (hΓ : Γ.ok P)
    (e : awpOpsG P Γ fl l.toArray (Q .normal) l t h) : AWP P ro N (.region id l.toArray true) Q t h :=
  awp_draws hm fl _ Γ hk ho hΓ (by rw [opersOf_range]; exact e)

theorem PureV.func {f : FuncId} {first caps args : List AV} {r : AV} (c : Pure P f (first ++ args ++ caps) r) : PureV P (.fn (.func f) first caps) args r := fun h => c h
theorem PureV.of {f : FuncId} {args : List AV} {r : AV} (c : Pure P f args r) : PureV P (.fn (.func f) [] []) args r := fun h => by simpa using c h
theorem PureV.use {fv : AV} {args : List AV} {r : AV} {R : AV → AHeap → Prop} (c : PureV P fv args r) (k : R r h) : ACallV P fv args h R := ACallV.mono (c h) fun r' h' ⟨e1, e2⟩ => by subst e1; subst e2; exact k
/-- A call that hands back r and turns nothing of what is owned here. -/
theorem ACalls.use {f : FuncId} {args : List AV} {r : AV} {R : AV → AHeap → Prop} (c : ACalls P f args h fun r' h' => r' = r ∧ h' = h) (k : R r h) : ACalls P f args h R := ACalls.mono c fun r' h' ⟨e1, e2⟩ => by subst e1; subst e2; exact k
theorem ACallV.use {fv : AV} {args : List AV} {r : AV} {R : AV → AHeap → Prop} (c : ACallV P fv args h fun r' h' => r' = r ∧ h' = h) (k : R r h) : ACallV P fv args h R := ACallV.mono c fun r' h' ⟨e1, e2⟩ => by subst e1; subst e2; exact k
end

/-! ### A call that turns nothing turns nothing beside more -/
theorem le_un {h h2 : AHeap} (x : HLe h h2) : ∃ hd, Disj h hd ∧ h.un hd = h2 := by
  refine ⟨fun b => match h b with | some _ => none | none => h2 b, fun b => ?_, ?_⟩
  · cases e : h b with
    | none => exact .inl rfl
    | some c => right; simp [e]
  · funext b
    simp only [AHeap.un]
    cases e : h b with
    | none => rfl
    | some c => exact (x b c e).symm
theorem ACallV.le {P : Program} {fv : AV} {args : List AV} {r : AV} {h h2 : AHeap} (c : ACallV P fv args h fun r' h' => r' = r ∧ h' = h) (x : HLe h h2) : ACallV P fv args h2 fun r' h' => r' = r ∧ h' = h2 := by
  obtain ⟨hd, D, rfl⟩ := le_un x
  refine ACallV.mono (ACallV.frame c D) ?_
  rintro r' h' ⟨h1, rfl, _, rfl, rfl⟩
  exact ⟨rfl, rfl⟩
theorem ACalls.le {P : Program} {f : FuncId} {args : List AV} {r : AV} {h h2 : AHeap} (c : ACalls P f args h fun r' h' => r' = r ∧ h' = h) (x : HLe h h2) : ACalls P f args h2 fun r' h' => r' = r ∧ h' = h2 := by
  obtain ⟨hd, D, rfl⟩ := le_un x
  refine ACalls.mono (ACalls.frame c D) ?_
  rintro r' h' ⟨h1, rfl, _, rfl, rfl⟩
  exact ⟨rfl, rfl⟩
theorem HLe.refl (h : AHeap) : HLe h h := fun _ _ e => e
theorem HLe.trans {h h1 h2 : AHeap} (x : HLe h h1) (y : HLe h1 h2) : HLe h h2 := fun b c e => y b c (x b c e)
theorem HLe.new {h h1 : AHeap} {b : Nat} {c : Chunk} (x : HLe h h1) (e : Fresh h b) : HLe h (h1.upd b c) := fun i d hd => by
  have : i ≠ b := fun e' => by unfold Fresh at e; rw [e', e] at hd; cases hd
  rw [AHeap.upd_ne this]; exact x i d hd
theorem HLe.del {h h1 : AHeap} {b : Nat} (x : HLe h h1) (e : Fresh h b) : HLe h (h1.del b) := fun i d hd => by
  have : i ≠ b := fun e' => by unfold Fresh at e; rw [e', e] at hd; cases hd
  rw [AHeap.del_ne this]; exact x i d hd
theorem HLe.fresh {h h1 : AHeap} {b : Nat} (x : HLe h h1) (e : Fresh h1 b) : Fresh h b := by
  unfold Fresh at *
  cases hb : h b with
  | none => rfl
  | some c => rw [x b c hb] at e; cases e
theorem HLe.drop {h h1 : AHeap} (x : HLe h h1) : ∀ b, h b = none ∨ h b = h1 b := fun b => by
  cases hb : h b with
  | none => exact .inl rfl
  | some c => exact .inr (x b c hb).symm
theorem HLe.cells {h h1 : AHeap} (x : HLe h h1) {b off : Nat} {cs : List AV} (e : cellsAt h b off = some cs) : cellsAt h1 b off = some cs := by
  unfold cellsAt at *
  cases hb : h b with
  | none => rw [hb] at e; cases e
  | some c => rw [hb] at e; rw [x b c hb]; exact e
@[simp] theorem cellsAt_del {h : AHeap} {b b' off : Nat} : cellsAt (h.del b) b' off = if b' = b then none else cellsAt h b' off := by
  unfold cellsAt; by_cases e : b' = b <;> simp [AHeap.del, e]
@[simp] theorem mapAt_del {h : AHeap} {b b' : Nat} : mapAt (h.del b) (.map b') = if b' = b then none else mapAt h (.map b') := by
  unfold mapAt; by_cases e : b' = b <;> simp [AHeap.del, e]
@[simp] theorem fresh_del {h : AHeap} {b b' : Nat} : Fresh (h.del b) b' = (b' = b ∨ Fresh h b') := by
  unfold Fresh; by_cases e : b' = b <;> simp [AHeap.del, e]
theorem ne_map {h : AHeap} {b r : Nat} {q : Nat × KShape × List (AV × AV)} (e : mapAt h (.map b) = some q) (f : Fresh h r) : ¬ b = r ∧ ¬ r = b := by
  constructor
  · rintro rfl; unfold Fresh at f; simp [mapAt, f] at e
  · rintro rfl; unfold Fresh at f; simp [mapAt, f] at e
theorem ne_cells_map {h : AHeap} {b r off : Nat} {cs : List AV} {q : Nat × KShape × List (AV × AV)} (e : cellsAt h b off = some cs) (e' : mapAt h (.map r) = some q) : ¬ b = r ∧ ¬ r = b := by
  constructor
  · rintro rfl
    cases hb : h b with
    | none => simp [cellsAt, hb] at e
    | some c => cases c <;> simp [cellsAt, mapAt, hb] at e e'
  · rintro rfl
    cases hb : h r with
    | none => simp [cellsAt, hb] at e
    | some c => cases c <;> simp [cellsAt, mapAt, hb] at e e'
theorem HLe.newO {h h1 : AHeap} {o : Option Nat} {cs : List AV} (x : HLe h h1) (e : ∀ b, o = some b → Fresh h b) : HLe h (match o with | none => h1 | some b => h1.upd b (.cells cs)) := by
  cases o with
  | none => exact x
  | some b => exact x.new (e b rfl)

theorem upd_comm3 {h : AHeap} {b b' b2 : Nat} {c c' c2 : Chunk} (e : ¬ b = b') : ((h.upd b c).upd b' c').upd b2 c2 = ((h.upd b' c').upd b c).upd b2 c2 := by rw [AHeap.upd_comm e]

/-! ### Blocks are given up -/
theorem turnA_drop {K : AF → AHeap → Prop} {t : AF} {h : AHeap} (b : Nat) (q : K t (h.del b)) : turnA K t h := ⟨0, h.del b, t, SubH.del 0 h b, fun _ => .inl rfl, q⟩
theorem turnA_to {K : AF → AHeap → Prop} {t : AF} {h : AHeap} (h' : AHeap) (d : Drop h h') (q : K t h') : turnA K t h := ⟨0, h', t, d.sub 0, fun _ => .inl rfl, q⟩
/-- Slots turn, too: k is how deep. -/
theorem turnA_frz {K : AF → AHeap → Prop} {t : AF} {h : AHeap} (k : Nat) (h' : AHeap) (t' : AF) (d : Drop h h') (ht : TurnF k h h' t t') (q : K t' h') : turnA K t h := ⟨k, h', t', d.sub k, ht, q⟩
theorem finA_to {R : AV → AHeap → Prop} {r : AV} {h : AHeap} (k : Nat) (h' : AHeap) (d : Drop h h') (q : R (frzF k h h' r) h') : finA R r h := ⟨k, h', _, d.sub k, .inr rfl, q⟩
theorem finA_same {R : AV → AHeap → Prop} {r : AV} {h : AHeap} (h' : AHeap) (d : Drop h h') (q : R r h') : finA R r h := ⟨0, h', r, d.sub 0, .inl rfl, q⟩

/-! ### Numbers -/
theorem wrap_i64 {x : Int} (h1 : -9223372036854775808 ≤ x) (h2 : x ≤ 9223372036854775807) : IntKind.i64.wrap x = x := by
  simp [IntKind.wrap, IntKind.bits, IntKind.signed]; omega
theorem wrap_i32 {x : Int} (h1 : -2147483648 ≤ x) (h2 : x ≤ 2147483647) : IntKind.i32.wrap x = x := by
  simp [IntKind.wrap, IntKind.bits, IntKind.signed]; omega
theorem wrap_u64 {x : Int} (h1 : 0 ≤ x) (h2 : x ≤ 18446744073709551615) : IntKind.u64.wrap x = x := by
  simp [IntKind.wrap, IntKind.bits, IntKind.signed]; omega
theorem wrap_u8 {x : Int} (h1 : 0 ≤ x) (h2 : x ≤ 255) : IntKind.u8.wrap x = x := by
  simp [IntKind.wrap, IntKind.bits, IntKind.signed]; omega
theorem u64_nonneg (x : Int) : 0 ≤ IntKind.u64.wrap x ∧ IntKind.u64.wrap x < 18446744073709551616 := by
  simp [IntKind.wrap, IntKind.bits, IntKind.signed]; omega
@[simp] theorem wrap_lit0 (k : IntKind) : k.wrap 0 = 0 := by cases k <;> rfl
@[simp] theorem wrap_lit1 (k : IntKind) : k.wrap 1 = 1 := by cases k <;> rfl

/-! ### What is handed back -/
section
variable {h h' : AHeap} {k : Nat}
@[simp] theorem frz_zero {a : AV} : frzF 0 h h' a = a := nrfl rfl
theorem frz_bare {a : AV} (e : a.bare = true) : frzF k h h' a = a := by
  cases k with
  | zero => rfl
  | succ k => cases a <;> first | rfl | (simp [AV.bare] at e; done)
@[simp] theorem frz_undef : frzF k h h' .undef = .undef := frz_bare rfl
@[simp] theorem frz_bool {b : Bool} : frzF k h h' (.bool b) = .bool b := frz_bare rfl
@[simp] theorem frz_int {i : IntKind} {n : Int} : frzF k h h' (.int i n) = .int i n := frz_bare rfl
@[simp] theorem frz_str {s : List UInt8} : frzF k h h' (.str s) = .str s := frz_bare rfl
@[simp] theorem frz_nilsl : frzF k h h' .nilsl = .nilsl := frz_bare rfl
@[simp] theorem frz_nilptr : frzF k h h' .nilptr = .nilptr := frz_bare rfl
@[simp] theorem frz_nilmap : frzF k h h' .nilmap = .nilmap := frz_bare rfl
@[simp] theorem frz_nilfn : frzF k h h' .nilfn = .nilfn := frz_bare rfl
@[simp] theorem frz_nilif : frzF k h h' .nilif = .nilif := frz_bare rfl
@[simp] theorem frz_sl {n : Nat} {cs : List AV} : frzF (k + 1) h h' (.sl n cs) = .sl n (cs.map (frzF k h h')) := nrfl rfl
@[simp] theorem frz_agg {cs : List AV} : frzF (k + 1) h h' (.agg cs) = .agg (cs.map (frzF k h h')) := nrfl rfl
@[simp] theorem frz_tup {cs : List AV} : frzF (k + 1) h h' (.tup cs) = .tup (cs.map (frzF k h h')) := nrfl rfl
@[simp] theorem frz_fptr {cs : List AV} : frzF (k + 1) h h' (.fptr cs) = .fptr (cs.map (frzF k h h')) := nrfl rfl
@[simp] theorem frz_fn {f : Fn} {fi ca : List AV} : frzF (k + 1) h h' (.fn f fi ca) = .fn f (fi.map (frzF k h h')) (ca.map (frzF k h h')) := nrfl rfl
theorem frz_osl {b off n es : Nat} (e : Fresh h' b) : frzF (k + 1) h h' (.osl b off n es) = match cellsAt h b 0 with | some cs => if off + n * es ≤ cs.length then .sl n (((cs.drop off).take (n * es)).map (frzF k h h')) else .osl b off n es | none => .osl b off n es := by
  unfold Fresh at e
  simp only [frzF, cellsAt, e]
  cases h b with
  | none => rfl
  | some c => cases c <;> rfl
attribute [simp] frz_osl
theorem frz_ptr {b off : Nat} (e : Fresh h' b) : frzF (k + 1) h h' (.ptr b off) = match cellsAt h b off with | some cs => .fptr (cs.map (frzF k h h')) | none => .ptr b off := by
  unfold Fresh at e
  simp only [frzF, cellsAt, e]
  cases h b with
  | none => rfl
  | some c => cases c <;> rfl
attribute [simp] frz_ptr
theorem map_self {l : List AV} {f : AV → AV} (e : ∀ a ∈ l, f a = a) : l.map f = l := by
  induction l with
  | nil => rfl
  | cons a l ih => simp only [List.map_cons, e a (by simp), ih fun b hb => e b (by simp [hb])]
theorem map_frz {l : List AV} (e : ∀ a ∈ l, a.bare = true) : l.map (frzF k h h') = l := map_self fun a ha => frz_bare (e a ha)
/-- What is told by value alone. -/
def AV.frozen : AV → Bool
  | .sl _ cs => frozens cs
  | .agg cs => frozens cs
  | .tup cs => frozens cs
  | .fptr cs => frozens cs
  | .fn _ fi ca => frozens fi && frozens ca
  | .iface _ v => v.frozen
  | .osl .. | .ptr .. | .map _ => false
  | _ => true
where frozens : List AV → Bool
  | [] => true
  | a :: as => a.frozen && frozens as
theorem frozens_iff {l : List AV} : AV.frozen.frozens l = true ↔ ∀ a ∈ l, a.frozen = true := by
  induction l with
  | nil => simp [AV.frozen.frozens]
  | cons a l ih => simp [AV.frozen.frozens, ih]
theorem frz_frozen : ∀ (k : Nat) (a : AV), a.frozen = true → frzF k h h' a = a := by
  intro k
  induction k with
  | zero => intro a _; rfl
  | succ k ih =>
    have il : ∀ l : List AV, AV.frozen.frozens l = true → l.map (frzF k h h') = l := by
      intro l e
      rw [frozens_iff] at e
      exact map_self fun a ha => ih a (e a ha)
    intro a e
    cases a <;> simp only [AV.frozen, Bool.and_eq_true] at e <;> first | rfl | (simp at e; done) | skip
    · simp only [frzF, il _ e]
    · simp only [frzF, il _ e]
    · simp only [frzF, il _ e.1, il _ e.2]
    · simp only [frzF, ih _ e]
    · simp only [frzF, il _ e]
    · simp only [frzF, il _ e]
theorem map_frozen {l : List AV} (e : ∀ a ∈ l, a.frozen = true) : l.map (frzF k h h') = l := map_self fun a ha => frz_frozen k a (e a ha)

theorem ne_fresh {b r off : Nat} {cs : List AV} (e : cellsAt h b off = some cs) (f : Fresh h r) : ¬ b = r ∧ ¬ r = b := by
  constructor
  · rintro rfl; unfold Fresh at f; simp [cellsAt, f] at e
  · rintro rfl; unfold Fresh at f; simp [cellsAt, f] at e

/-- A block that is there turns in its place. -/
def AHeap.updN (h : AHeap) (b : Nat) (c : Chunk) : AHeap := h.upd b c
@[simp] theorem upd_in {b b' : Nat} {c c' : Chunk} (hne : ¬ b = b') (hin : ¬ Fresh h b') : (h.upd b c).upd b' c' = (h.updN b' c').upd b c := AHeap.upd_comm hne
@[simp] theorem updN_same {b : Nat} {c c' : Chunk} : (h.upd b c).updN b c' = h.upd b c' := AHeap.upd_upd
@[simp] theorem updN_ne {b b' : Nat} {c c' : Chunk} (hne : ¬ b = b') : (h.upd b c).updN b' c' = (h.updN b' c').upd b c := AHeap.upd_comm hne
theorem notFresh {b off : Nat} {cs : List AV} (e : cellsAt h b off = some cs) : ¬ Fresh h b := by
  intro f; unfold Fresh at f; simp [cellsAt, f] at e

/-- A row of one's own that grows: nothing yet, or a block. -/
def ownV (o : Option Nat) (n es : Nat) : AV := match o with | none => .nilsl | some b => .osl b 0 n es
def AHeap.updO (h : AHeap) (o : Option Nat) (cs : List AV) : AHeap := match o with | none => h | some b => h.upd b (.cells cs)
@[simp] theorem ownV_none {n es : Nat} : ownV none n es = .nilsl := nrfl rfl
@[simp] theorem ownV_some {b n es : Nat} : ownV (some b) n es = .osl b 0 n es := nrfl rfl
@[simp] theorem updO_none {cs : List AV} : h.updO none cs = h := nrfl rfl
@[simp] theorem updO_some {b : Nat} {cs : List AV} : h.updO (some b) cs = h.upd b (.cells cs) := nrfl rfl
def FreshO (h : AHeap) (o : Option Nat) : Prop := match o with | none => True | some b => Fresh h b
@[simp] theorem freshO_none : FreshO h none = True := nrfl rfl
@[simp] theorem freshO_some {b : Nat} : FreshO h (some b) = Fresh h b := nrfl rfl
@[simp] theorem del_fresh {b : Nat} (e : Fresh h b) : h.del b = h := AHeap.del_none e

/-- A block is given up wherever code is told as a whole: every slot is told anew. -/
theorem AWP_give {P : Program} {ro : Option Nat} {N : Nat} {c : Code} {Q : Exit → AF → AHeap → Prop} {t : AF} {h : AHeap} (k : Nat) (b : Nat) (x : AWP P ro N c Q (fun i => frzF k h (h.del b) (t i)) (h.del b)) : AWP P ro N c Q t h :=
  AWP.turn ⟨k, h.del b, _, SubH.del k h b, fun _ => .inr rfl, x⟩
theorem turnA_give {K : AF → AHeap → Prop} {t : AF} {h : AHeap} (k : Nat) (b : Nat) (x : K (fun i => frzF k h (h.del b) (t i)) (h.del b)) : turnA K t h :=
  ⟨k, h.del b, _, SubH.del k h b, fun _ => .inr rfl, x⟩
@[simp] theorem frz_ptr_ne {h h' : AHeap} {k b off : Nat} (e : h' b ≠ none) : frzF k h h' (.ptr b off) = .ptr b off := by
  cases k with
  | zero => rfl
  | succ k =>
    simp only [frzF]
    split
    · next h1 h2 => exact absurd h2 e
    · rfl

/-- A row of one's own is given up: it is told by value from here on. -/
theorem turnA_row {K : AF → AHeap → Prop} {t : AF} (d b : Nat) {n es : Nat} {cs : List AV} (hd : t d = .osl b 0 n es) (hb : cellsAt h b 0 = some cs) (hl : cs.length = n * es) (hf : ∀ a ∈ cs, a.frozen = true) (q : K (t.put d (.sl n cs)) (h.del b)) : turnA K t h := by
  refine ⟨1, h.del b, t.put d (.sl n cs), SubH.del 1 h b, fun i => ?_, q⟩
  by_cases e : i = d
  · subst e
    refine .inr ?_
    rw [AF.put_same, hd]
    simp only [frzF, AHeap.del_same]
    have hb' : h b = some (.cells cs) := by
      unfold cellsAt at hb
      split at hb
      · next cs' h1 => rw [h1]; simpa using hb
      · cases hb
    rw [hb']
    simp only [Nat.zero_add, List.drop_zero]
    rw [if_pos (by omega), List.take_of_length_le (by omega)]
    simp
  · exact .inl (AF.put_ne _ _ _ _ e)

/-! ### Lists as rows -/
def intsA (l : List Int) : AV := .sl l.length (l.map (.int .i64))
def boolsA (l : List Bool) : AV := .sl l.length (l.map .bool)
def strsA (l : List (List UInt8)) : AV := .sl l.length (l.map .str)
def rowsA (l : List (List Int)) : AV := .sl l.length (l.map intsA)
@[simp] theorem intsA_one {l : List Int} : (intsA l).one = true := rfl
@[simp] theorem boolsA_one {l : List Bool} : (boolsA l).one = true := rfl
@[simp] theorem strsA_one {l : List (List UInt8)} : (strsA l).one = true := rfl
@[simp] theorem rowsA_one {l : List (List Int)} : (rowsA l).one = true := rfl
@[simp] theorem intsA_fit {l : List Int} : (intsA l).fit = true := rfl
@[simp] theorem boolsA_fit {l : List Bool} : (boolsA l).fit = true := rfl
@[simp] theorem strsA_fit {l : List (List UInt8)} : (strsA l).fit = true := rfl
@[simp] theorem rowsA_fit {l : List (List Int)} : (rowsA l).fit = true := rfl
@[simp] theorem intsA_cells {l : List Int} : (intsA l).cells = [intsA l] := rfl
@[simp] theorem boolsA_cells {l : List Bool} : (boolsA l).cells = [boolsA l] := rfl
@[simp] theorem strsA_cells {l : List (List UInt8)} : (strsA l).cells = [strsA l] := rfl
@[simp] theorem rowsA_cells {l : List (List Int)} : (rowsA l).cells = [rowsA l] := rfl
theorem ints_frozen {l : List Int} : ∀ a ∈ l.map (AV.int .i64), a.frozen = true := by
  intro a ha; obtain ⟨x, _, rfl⟩ := List.mem_map.1 ha; rfl
theorem bools_frozen {l : List Bool} : ∀ a ∈ l.map AV.bool, a.frozen = true := by
  intro a ha; obtain ⟨x, _, rfl⟩ := List.mem_map.1 ha; rfl
theorem strs_frozen {l : List (List UInt8)} : ∀ a ∈ l.map AV.str, a.frozen = true := by
  intro a ha; obtain ⟨x, _, rfl⟩ := List.mem_map.1 ha; rfl
@[simp] theorem intsA_frozen {l : List Int} : (intsA l).frozen = true := by simp only [intsA, AV.frozen]; exact frozens_iff.2 ints_frozen
@[simp] theorem boolsA_frozen {l : List Bool} : (boolsA l).frozen = true := by simp only [boolsA, AV.frozen]; exact frozens_iff.2 bools_frozen
@[simp] theorem strsA_frozen {l : List (List UInt8)} : (strsA l).frozen = true := by simp only [strsA, AV.frozen]; exact frozens_iff.2 strs_frozen
theorem rows_frozen {l : List (List Int)} : ∀ a ∈ l.map intsA, a.frozen = true := by
  intro a ha; obtain ⟨x, _, rfl⟩ := List.mem_map.1 ha; exact intsA_frozen
@[simp] theorem rowsA_frozen {l : List (List Int)} : (rowsA l).frozen = true := by simp only [rowsA, AV.frozen]; exact frozens_iff.2 rows_frozen
@[simp] theorem frz_ints {l : List Int} : frzF k h h' (intsA l) = intsA l := frz_frozen k _ intsA_frozen
@[simp] theorem frz_bools {l : List Bool} : frzF k h h' (boolsA l) = boolsA l := frz_frozen k _ boolsA_frozen
@[simp] theorem frz_strs {l : List (List UInt8)} : frzF k h h' (strsA l) = strsA l := frz_frozen k _ strsA_frozen
@[simp] theorem frz_rows {l : List (List Int)} : frzF k h h' (rowsA l) = rowsA l := frz_frozen k _ rowsA_frozen
@[simp] theorem map_frz_ints {l : List Int} : (l.map (AV.int .i64)).map (frzF k h h') = l.map (.int .i64) := map_frozen ints_frozen
@[simp] theorem map_frz_bools {l : List Bool} : (l.map AV.bool).map (frzF k h h') = l.map .bool := map_frozen bools_frozen
@[simp] theorem map_frz_strs {l : List (List UInt8)} : (l.map AV.str).map (frzF k h h') = l.map .str := map_frozen strs_frozen
@[simp] theorem map_frz_rows {l : List (List Int)} : (l.map intsA).map (frzF k h h') = l.map intsA := map_frozen rows_frozen
end
end Go.AH
