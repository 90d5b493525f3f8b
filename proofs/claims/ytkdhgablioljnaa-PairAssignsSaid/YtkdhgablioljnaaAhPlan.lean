/-
  What an operation does, in one form: a value, a block that is written or given up, a fresh block; which blocks it touches.
-/
import Derived.Test.YtkdhgablioljnaaA2
set_option linter.unusedSimpArgs false
set_option linter.unusedVariables false
set_option linter.unusedSectionVars false
namespace Go.AH
open Go

structure Plan where
  v : Nat → AV
  wr : Option (Nat × Option Chunk)
  fr : Option Chunk

def Plan.heap (p : Plan) (h : AHeap) : AHeap := match p.wr with
  | none => h
  | some (b, some c) => h.upd b c
  | some (b, none) => h.del b
def Plan.run (p : Plan) (h : AHeap) (K : AV → AHeap → Prop) : Prop := match p.fr with
  | none => K (p.v 0) (p.heap h)
  | some c => ∀ b, (p.heap h) b = none → K (p.v b) ((p.heap h).upd b c)

def Plan.ret (v : AV) : Plan := ⟨fun _ => v, none, none⟩
def Plan.new (c : Chunk) (v : Nat → AV) : Plan := ⟨v, none, some c⟩
def Plan.put (b : Nat) (c : Chunk) (v : AV) : Plan := ⟨fun _ => v, some (b, some c), none⟩

noncomputable def planPut (P : Program) (t : AF) (h : AHeap) (ty : TypeId) (m k x : Operand) : Option Plan := match P.underlying ty with
  | some (.map kt _) => match evalA t m with
    | .map b => match h b with
      | some (.map sh es) => if shapeT P kt = some sh ∧ sh.ok (evalA t k) = true then some (.put b (.map sh (mapSet es (evalA t k) (evalA t x))) .undef) else none
      | _ => none
    | _ => none
  | _ => none

noncomputable def planA (P : Program) (t : AF) (h : AHeap) (op : Op) : Option Plan :=
  match op with
  | .alloc e => match zeroT P e with
    | some z => some (.new (.cells z) fun b => .ptr b 0)
    | none => none
  | .box _ x => if (evalA t x).fit = true then some (.new (.cells (evalA t x).cells) fun b => .ptr b 0) else none
  | .buildSlice ty len parts => match elemT P ty with
    | some (_, es, _, z) => match fillA (fun i => some (i * es, es)) (zcells z len) (parts.toList.map fun p => (p.1, evalA t p.2)) with
      | some cells => if len ≤ 65536 ∧ es ≤ 128 then some (.new (.cells cells) fun b => .osl b 0 len es) else none
      | none => none
    | none => none
  | .store ty a x => match evalA t a with
    | .ptr b off => match h b with
      | some (.cells cs) => if (evalA t x).fit = true ∧ szT P ty = some (evalA t x).cells.length ∧ off + (evalA t x).cells.length ≤ cs.length then some (.put b (.cells (splice cs off (evalA t x).cells)) .undef) else none
      | _ => none
    | _ => none
  | .makeSlice ty l c => match elemT P ty with
    | some (_, es, _, z) => match evalA t l, evalA t c with
      | .int _ l, .int _ c => if 0 ≤ l ∧ l ≤ c ∧ c < 2 ^ 30 then some (.new (.cells (zcells z l.toNat)) fun b => .osl b 0 l.toNat es) else none
      | _, _ => none
    | none => none
  | .makeMap ty none => match P.underlying ty with
    | some (.map kt _) => match shapeT P kt with
      | some sh => some (.new (.map sh []) fun b => .map b)
      | none => none
    | _ => none
  | .mapUpdate ty m k x => planPut P t h ty m k x
  | .insert ty m k x => planPut P t h ty m k x
  | .lookup ty m k ok => match P.underlying ty with
    | some (.map kt et) => match zeroV P et, evalA t m with
      | some z, .map b => match h b with
        | some (.map sh es) => if shapeT P kt = some sh ∧ sh.ok (evalA t k) = true then
          some (.ret (if ok then .tup [(mapGet es (evalA t k)).getD z, .bool (mapGet es (evalA t k)).isSome] else (mapGet es (evalA t k)).getD z)) else none
        | _ => none
      | _, _ => none
    | _ => none
  | .range ty x => match P.underlying ty, evalA t x with
    | some .string, .str s => some (.new (.sit s 0) fun b => .ptr b 0)
    | _, _ => none
  | .next it true => match evalA t it with
    | .ptr b 0 => match h b with
      | some (.sit s pos) => if pos < s.length then some (.put b (.sit s (pos + (Utf8.decode ⟨s.toArray⟩ pos).2)) (.tup [.bool true, .int .i64 pos, .int .i32 (Utf8.decode ⟨s.toArray⟩ pos).1])) else some (.ret (.tup [.bool false]))
      | _ => none
    | _ => none
  | .call { callee := .builtin .append, args, argTypes } => match args.toList, argTypes.toList with
    | [s, x], [ts, tx] => match elemT P ts with
      | some (_, es, _, _) => if rowT P tx = true then match appXs h es (evalA t x) with
        | some (k, xs) => match evalA t s with
          | .nilsl => if k = 0 then some (.ret .nilsl) else if k < 2 ^ 30 then some (.new (.cells xs) fun b => .osl b 0 k es) else none
          | .osl b 0 n es' => match h b with
            | some (.cells cs) => if es' = es ∧ n + k < 2 ^ 30 ∧ cs.length = n * es then some ⟨fun b' => .osl b' 0 (n + k) es, some (b, none), some (.cells (cs ++ xs))⟩ else none
            | _ => none
          | _ => none
        | none => none
        else none
      | none => none
    | _, _ => none
  | .call { callee := .builtin .copy, args, argTypes } => match args.toList, argTypes.toList with
    | [d, x], [td, _] => match elemT P td with
      | some (_, es, _, _) => match appXs h es (evalA t x), evalA t d with
        | some (k, xs), .osl b off n es' => match h b with
          | some (.cells cs) => if es' = es ∧ off + n * es ≤ cs.length then some (.put b (.cells (splice cs off (xs.take (min k n * es)))) (.int .i64 (min k n))) else none
          | _ => none
        | _, _ => none
      | none => none
    | _, _ => none
  | .call { callee := .builtin .min, args, .. } => match args.toList with
    | x :: rest => (minA false (evalA t x) (rest.map (evalA t))).map .ret
    | [] => none
  | .call { callee := .builtin .max, args, .. } => match args.toList with
    | x :: rest => (minA true (evalA t x) (rest.map (evalA t))).map .ret
    | [] => none
  | op => (pureA P t h op).map .ret

section
variable {P : Program} {t : AF} {h h' : AHeap} {K : AV → AHeap → Prop}

theorem run_ret {v : AV} : (Plan.ret v).run h K = K v h := rfl
theorem run_new {c : Chunk} {v : Nat → AV} : (Plan.new c v).run h K = ∀ b, h b = none → K (v b) (h.upd b c) := rfl
theorem run_put {b : Nat} {c : Chunk} {v : AV} : (Plan.put b c v).run h K = K v (h.upd b c) := rfl

/-- Does it append at an offset? -/
def offApp (t : AF) : Op → Bool
  | .call { callee := .builtin .append, args, .. } => match args.toList with
    | [s, _] => match evalA t s with
      | .osl _ (_ + 1) _ _ => true
      | _ => false
    | _ => false
  | _ => false
theorem plan_app {args : Array Operand} {ats : Array TypeId} (ho : offApp t (.call { callee := .builtin .append, args := args, argTypes := ats }) = false) :
    onSome (planA P t h (.call { callee := .builtin .append, args := args, argTypes := ats })) (fun p => p.run h K) ↔ effStep P t h (.call { callee := .builtin .append, args := args, argTypes := ats }) K := by
  simp only [offApp] at ho
  simp only [planA, effStep]
  generalize args.toList = l1 at ho ⊢
  generalize ats.toList = l2
  rcases l1 with _ | ⟨s, _ | ⟨x, _ | ⟨y, l⟩⟩⟩ <;> rcases l2 with _ | ⟨ts, _ | ⟨tx, _ | ⟨y', l'⟩⟩⟩ <;> first | exact Iff.rfl | skip
  simp only at ho ⊢
  cases elemT P ts with
  | none => exact Iff.rfl
  | some e =>
    obtain ⟨e0, es, by_, z⟩ := e
    simp only
    cases hr : rowT P tx with
    | false => simp [onSome]
    | true =>
      simp only [if_true, true_and]
      cases appXs h es (evalA t x) with
      | none => exact Iff.rfl
      | some q =>
        obtain ⟨k, xs⟩ := q
        simp only
        cases hs : evalA t s <;> first | exact Iff.rfl | skip
        · simp only
          by_cases h0 : k = 0
          · rw [if_pos h0]
            exact ⟨fun q => ⟨fun _ => q, fun q2 => absurd h0 q2⟩, fun q => q.1 h0⟩
          · rw [if_neg h0]
            by_cases h1 : k < 2 ^ 30
            · rw [if_pos h1]
              exact ⟨fun q => ⟨fun q2 => absurd q2 h0, fun _ => ⟨h1, q⟩⟩, fun q => (q.2 h0).2⟩
            · rw [if_neg h1]
              exact ⟨fun q => q.elim, fun q => h1 (q.2 h0).1⟩
        · rename_i b off n es'
          cases off with
          | succ off => rw [hs] at ho; cases ho
          | zero =>
            simp only
            cases h b with
            | none => simp [onSome]
            | some c =>
              cases c with
              | cells cs =>
                simp only
                by_cases hc : es' = es ∧ n + k < 2 ^ 30 ∧ cs.length = n * es
                · rw [if_pos hc]
                  exact ⟨fun q => ⟨hc.1, hc.2.1, hc.2.2, q⟩, fun q => q.2.2.2⟩
                · rw [if_neg hc]
                  exact ⟨fun q => q.elim, fun q => hc ⟨q.1, q.2.1, q.2.2.1⟩⟩
              | _ => simp [onSome]
/-- **Every operation but a call, and but an append at an offset, has a plan.** -/
theorem plan_iff {op : Op} (ho : offApp t op = false) : onSome (planA P t h op) (fun p => p.run h K) ↔ effStep P t h op K := by
  by_cases happ : ∃ args ats, op = .call { callee := .builtin .append, args := args, argTypes := ats }
  · obtain ⟨args, ats, rfl⟩ := happ
    exact plan_app ho
  clear ho
  unfold planA effStep planPut
  split <;> (try dsimp only)
  all_goals repeat' split
  all_goals first
    | exact absurd ⟨_, _, rfl⟩ happ
    | exact Iff.rfl
    | (simp_all [onSome, Plan.run, Plan.ret, Plan.new, Plan.put, Plan.heap, and_assoc]; done)
    | (simp_all [onSome, Plan.run, Plan.ret, Plan.new, Plan.put, Plan.heap, and_assoc]; omega)
    | (rename_i hn; refine ⟨fun k => k.elim, fun k => (hn ?_).elim⟩; simp_all; done)
    | (exfalso; solve_by_elim (maxDepth := 3))
    | grind [onSome, Plan.run, Plan.ret, Plan.new, Plan.put, Plan.heap]
    | (cases pureA P t h op <;> exact Iff.rfl)
theorem plan_of {op : Op} (e : onSome (planA P t h op) (fun p => p.run h K)) : effStep P t h op K := by
  cases ho : offApp t op with
  | false => exact (plan_iff ho).1 e
  | true =>
    exfalso
    unfold offApp at ho
    split at ho
    · next args ats =>
      split at ho
      · next s x ha =>
        split at ho
        · next b off n es hs =>
          simp only [planA, ha] at e
          split at e
          · next hh _ => cases hh; rw [hs] at e; simp only at e; (repeat' split at e) <;> first | exact e.elim | (simp only [onSome] at e)
          · exact e.elim
        · cases ho
      · cases ho
    · cases ho
end
end Go.AH
