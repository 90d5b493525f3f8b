/-
  The abstract calculus: calls, operations, regions.
-/
import Derived.Test.YtobhipohnjmnhaaAhEff2
import Derived.OrdersIn
import Derived.Sort.LoopGhostIn
set_option linter.unusedSimpArgs false
set_option linter.unusedVariables false
set_option linter.unusedSectionVars false
namespace Go.AH
open Go

def fence (ro : Option Nat) : Fence := { Fence.wide with round := ro }

/-- The activation's own deferred calls: the marks of its loops over functions. -/
def DefersOk (w : World) (g : AHeap) (B : Nat) (ds : List Deferred) : Prop :=
  ∃ rs : List Nat, ds = rs.map (fun r => { target := .collected r, args := #[] }) ∧ rs.Nodup ∧ ∀ r ∈ rs, B ≤ r ∧ r < w.heap.size ∧ g r = none ∧ w.heap[r]? = some (.deferred (some []))

structure Good (w : World) (h hf : AHeap) (a : Act) (t : AF) (N B : Nat) : Prop where
  disj : Disj h hf
  rel : Rel w (h.un hf)
  frame : RepF w (h.un hf) a.tmps t
  size : a.tmps.size = N
  defers : DefersOk w (h.un hf) B a.defers
  base : B ≤ w.heap.size

/-- Where a step may lead. -/
def To (w : World) (h hf : AHeap) (N B : Nat) (K : AF → AHeap → Prop) (a' : Act) (w' : World) : Prop :=
  ∃ t' h', K t' h' ∧ Good w' h' hf a' t' N B ∧ Stp w h hf w' h'

/-- What a call hands back. -/
def RetTo (w : World) (h hf : AHeap) (R : AV → AHeap → Prop) (e : Ending) (w' : World) : Prop :=
  ∃ v r h', e = .returned v ∧ R r h' ∧ Disj h' hf ∧ Rel w' (h'.un hf) ∧ Rep w' (h'.un hf) v r ∧ Stp w h hf w' h'

def ACalls (P : Program) (f : FuncId) (args : List AV) (h : AHeap) (R : AV → AHeap → Prop) : Prop :=
  (∀ (args : Array Value) (w : World), (callFunc f args).run P w = .ok (.enter f args) w) ∧
  ∀ hf w (vs : List Value), Disj h hf → Rel w (h.un hf) → RepL w (h.un hf) vs args → CallsIn (fence none) 0 P f vs.toArray w (RetTo w h hf R)

/-- A call of a round's function. -/
def AYield (P : Program) (l : Nat) (args : List AV) (h : AHeap) (R : AV → AHeap → Prop) : Prop :=
  ∀ hf w (vs : List Value), Disj h hf → Rel w (h.un hf) → RepL w (h.un hf) vs args → YieldAt (fence none) 0 P l vs.toArray w (RetTo w h hf R)

def ACallV (P : Program) (fv : AV) (args : List AV) (h : AHeap) (R : AV → AHeap → Prop) : Prop :=
  match fv with
  | .fn (.func f) first caps => ACalls P f (first ++ args ++ caps) h R
  | .fn (.yield l) [] [] => AYield P l args h R
  | _ => False

/-- One operation. -/
noncomputable def opRes (P : Program) (o : Oper) (t : AF) (h : AHeap) (K : AV → AHeap → Prop) : Prop :=
  match o.op with
  | .call { callee := .value f, args, .. } => ACallV P (evalA t f) (args.toList.map (evalA t)) h K
  | op => effStep P t h op K

noncomputable def opStep (P : Program) (o : Oper) (K : AF → AHeap → Prop) (t : AF) (h : AHeap) : Prop := opRes P o t h fun r h' => K (t.putO o.dst r) h'

/-- Is the operation's guard met? -/
def wantedA (ops : Array Oper) (t : AF) (o : Oper) : Option Bool :=
  match o.guard with
  | none => some true
  | some (j, want) =>
    match (ops[j]?).bind (·.dst) with
    | some d => match t d with
      | .bool b => some (b == want)
      | _ => none
    | none => none

noncomputable def awpOps (P : Program) (ops : Array Oper) (K : AF → AHeap → Prop) : List Oper → AF → AHeap → Prop
  | [], t, h => K t h
  | o :: rest, t, h =>
    match wantedA ops t o with
    | some true => opStep P o (awpOps P ops K rest) t h
    | some false => awpOps P ops K rest (t.putO o.dst .undef) h
    | none => False

section
variable {P : Program} {w : World} {h hf : AHeap} {t : AF} {a : Act} {o : Oper} {N B : Nat} {ro : Option Nat}

theorem DefersOk.ext {g g' : AHeap} {w' : World} {ds : List Deferred} (d : DefersOk w g B ds) (x : Ext w g w' g') : DefersOk w' g' B ds := by
  obtain ⟨rs, h1, h2, h3⟩ := d
  refine ⟨rs, h1, h2, fun r hr => ?_⟩
  obtain ⟨q1, q2, q3, q4⟩ := h3 r hr
  obtain ⟨e1, e2⟩ := x.keep r q2 q3
  exact ⟨q1, Nat.lt_of_lt_of_le q2 x.size, e1, e2.trans q4⟩

theorem Good.step {w' : World} {h' : AHeap} (G : Good w h hf a t N B) (D : Disj h' hf) (R : Rel w' (h'.un hf)) (x : Stp w h hf w' h') : Good w' h' hf a t N B :=
  ⟨D, R, G.frame.ext x.ext, G.size, G.defers.ext x.ext, Nat.le_trans G.base x.ext.size⟩

theorem Good.put {v : Value} {r : AV} (G : Good w h hf a t N B) {d : Option Nat} (hd : ∀ i, d = some i → i < N) (rv : Rep w (h.un hf) v r) : Good w h hf (a.put d v) (t.putO d r) N B := by
  cases d with
  | none => exact G
  | some i =>
    have hi := hd i rfl
    exact ⟨G.disj, G.rel, G.frame.put (by rw [G.size]; exact hi) rv, by simp [Act.put, G.size], G.defers, G.base⟩

theorem Good.skip {v : Value} (G : Good w h hf a t N B) {d : Option Nat} (hd : ∀ i, d = some i → i < N) : Good w h hf (a.put d v) (t.putO d .undef) N B := G.put hd (.undef v)

theorem To.refl {K : AF → AHeap → Prop} (G : Good w h hf a t N B) (k : K t h) : To w h hf N B K a w := ⟨t, h, k, G, .refl _ _ _⟩
theorem To.mono {K K' : AF → AHeap → Prop} {a' : Act} {w' : World} (T : To w h hf N B K a' w') (hk : ∀ t h, K t h → K' t h) : To w h hf N B K' a' w' := by
  obtain ⟨t', h', k, G, x⟩ := T
  exact ⟨t', h', hk _ _ k, G, x⟩

theorem Good.eval (G : Good w h hf a t N B) (x : Operand) : Rep w (h.un hf) (a.eval x) (evalA t x) := G.frame.eval x
theorem Good.repO (G : Good w h hf a t N B) : RepO w (h.un hf) a.eval t := fun x => G.frame.eval x

/-! ### Monotony -/
theorem CallsIn.mono' {F : Fence} {n : Nat} {f : FuncId} {args : Array Value} {R R' : Ending → World → Prop} (c : CallsIn F n P f args w R) (hr : ∀ e w', R e w' → R' e w') : CallsIn F n P f args w R' := CallsIn.mono c hr

theorem RetTo.mono {R R' : AV → AHeap → Prop} {e : Ending} {w' : World} (x : RetTo w h hf R e w') (hr : ∀ r h', R r h' → R' r h') : RetTo w h hf R' e w' := by
  obtain ⟨v, r, h', e1, e2, e3⟩ := x
  exact ⟨v, r, h', e1, hr _ _ e2, e3⟩

theorem ACalls.mono {f : FuncId} {args : List AV} {R R' : AV → AHeap → Prop} (c : ACalls P f args h R) (hr : ∀ r h', R r h' → R' r h') : ACalls P f args h R' :=
  ⟨c.1, fun hf w vs D Rl rs => CallsIn.mono (c.2 hf w vs D Rl rs) fun _ _ x => x.mono hr⟩

theorem yieldAt_mono {F : Fence} {m l : Nat} {args : Array Value} {W : World} {R R' : Ending → World → Prop} (h : YieldAt F m P l args W R) (hr : ∀ e w, R e w → R' e w) : YieldAt F m P l args W R' := by
  obtain ⟨fn, tmps, assign, body, hy, hR⟩ := h
  exact ⟨fn, tmps, assign, body, hy, hR.mono hr⟩

theorem AYield.mono {l : Nat} {args : List AV} {R R' : AV → AHeap → Prop} (c : AYield P l args h R) (hr : ∀ r h', R r h' → R' r h') : AYield P l args h R' :=
  fun hf w vs D Rl rs => yieldAt_mono (c hf w vs D Rl rs) fun _ _ x => x.mono hr

theorem ACallV.mono {fv : AV} {args : List AV} {R R' : AV → AHeap → Prop} (c : ACallV P fv args h R) (hr : ∀ r h', R r h' → R' r h') : ACallV P fv args h R' := by
  unfold ACallV at *
  split at c
  · exact ACalls.mono c hr
  · exact AYield.mono c hr
  · exact c.elim

theorem effStep_mono {op : Op} {K K' : AV → AHeap → Prop} (e : effStep P t h op K) (hk : ∀ r h', K r h' → K' r h') : effStep P t h op K' := by
  unfold effStep onSome at *
  repeat' split at e
  all_goals first
    | exact e.elim
    | (simp_all only []; done)
    | skip
  all_goals simp_all

theorem opRes_mono {K K' : AV → AHeap → Prop} (e : opRes P o t h K) (hk : ∀ r h', K r h' → K' r h') : opRes P o t h K' := by
  unfold opRes at *
  split
  · next heq => simp only [heq] at e; exact ACallV.mono e hk
  · next hne =>
    split at e
    · next heq => exact absurd heq (hne _ _ _)
    · exact effStep_mono e hk

/-! ### One operation, in the model -/
theorem fence_calls {n : Nat} {f : FuncId} {args : Array Value} {R : Ending → World → Prop} (c : CallsIn (fence none) n P f args w R) : CallsIn (fence ro) n P f args w R := c
theorem fence_round {n l : Nat} {f : FuncId} {tmps : Array Value} {as body : Code} {R : Ending → World → Prop} (c : RoundIn (fence none) n P l f tmps as body w R) : RoundIn (fence ro) n P l f tmps as body w R := c

theorem semAt_of {ρ : Operand → Value} (hd : ∀ c, o.op ≠ .defer c) : o.semAt ro ρ = execOp ρ o := Oper.semAt_eq ro ρ o hd

theorem opStep_sound (G : Good w h hf a t N B) (hd : ∀ i, o.dst = some i → i < N) (hdef : ∀ c, o.op ≠ .defer c) {K : AF → AHeap → Prop} (e : opStep P o K t h) (Q : Exit → Act → World → Prop) :
    o.wpIn (fence ro) 0 P a w (To w h hf N B K) Q := by
  refine ⟨fun _ _ => trivial, ?_⟩
  rw [show (fence ro).round = ro from rfl, semAt_of hdef]
  unfold opStep opRes at e
  split at e
  · next f args argTypes ho =>
    have rl := G.repO.list args.toList
    have ef : (args.map a.eval) = (args.toList.map a.eval).toArray := by apply Array.toList_inj.1; simp
    unfold ACallV at e
    split at e
    · next g first caps hg =>
      obtain ⟨fi, ca, hv, r1, r2⟩ := (hg ▸ G.eval f : Rep w (h.un hf) (a.eval f) (.fn (.func g) first caps)).inv_fn
      obtain ⟨hcall, hc⟩ := e
      have hrun : (execOp a.eval o).run P w = .ok (.enter g ((fi ++ args.toList.map a.eval ++ ca).toArray)) w := by
        simp only [execOp, ho, resolve, Sem.run_bind, hv, Deferred.ofValue, Sem.run_pure, Result.andThen, invoke, ef]
        rw [show (fi.toArray ++ (args.toList.map a.eval).toArray ++ ca.toArray) = (fi ++ args.toList.map a.eval ++ ca).toArray from by simp]
        exact hcall _ _
      rw [hrun]
      refine ⟨fun hx => by simp [fence, Fence.wide] at hx, fence_calls ((hc hf w _ G.disj G.rel ((r1.append rl).append r2)).mono ?_)⟩
      rintro e' w' ⟨v, r, h', rfl, k, D, R, rv, x⟩
      exact ⟨_, _, k, (G.step D R x).put hd rv, x⟩
    · next l hg =>
      obtain ⟨fi, ca, hv, r1, r2⟩ := (hg ▸ G.eval f : Rep w (h.un hf) (a.eval f) (.fn (.yield l) [] [])).inv_fn
      have hfi : fi = [] := List.eq_nil_of_length_eq_zero (by have := r1.1; simpa using this)
      subst hfi
      obtain ⟨fn, tmps, assign, body, hy, hr⟩ := e hf w _ G.disj G.rel rl
      have hrun : (execOp a.eval o).run P w = .ok (.round l fn tmps assign body) w := by
        simp only [execOp, ho, resolve, Sem.run_bind, hv, Deferred.ofValue, Sem.run_pure, Result.andThen, invoke, ef]
        rw [show (([] : List Value).toArray ++ (args.toList.map a.eval).toArray) = (args.toList.map a.eval).toArray from by simp]
        exact hy
      rw [hrun]
      refine ⟨fun hx => by simp [fence, Fence.wide] at hx, fence_round (hr.mono ?_)⟩
      rintro e' w' ⟨v, r, h', rfl, k, D, R, rv, x⟩
      exact ⟨_, _, k, (G.step D R x).put hd rv, x⟩
    · exact e.elim
  · obtain ⟨v, w', r, h', hrun, k, rv, D, R, x⟩ := effStep_sound G.disj G.rel G.repO e
    have T : To w h hf N B K (a.put o.dst v) w' := ⟨_, _, k, (G.step D R x).put hd rv, x⟩
    rcases hrun with hrun | ⟨hrun, rfl⟩
    · rw [hrun]; exact T
    · rw [hrun]; exact T

theorem yielded_of {ops : Array Oper} {tmps : Array Value} {g : AHeap} {j d : Nat} {b : Bool} (r : RepF w g tmps t) (hd : (ops[j]?).bind (·.dst) = some d) (hb : t d = .bool b) (hlt : d < tmps.size) : yielded ops tmps j = some b := by
  have := (hb ▸ r d : Rep w g (tmps.getD d Go.undef) (.bool b)).inv_bool
  unfold yielded
  rw [hd]
  have e : tmps[d]? = some (.bool b) := by
    simp [hlt] at this ⊢
    exact this
  simp [e]

theorem wanted_of {ops : Array Oper} (G : Good w h hf a t N B) (hg : ∀ j want d, o.guard = some (j, want) → (ops[j]?).bind (·.dst) = some d → d < N) {b : Bool} (e : wantedA ops t o = some b) : Region.wanted o (yielded ops a.tmps) = b := by
  unfold wantedA at e
  unfold Region.wanted
  split at e
  · next hn => simp only [Option.some.injEq] at e; simp [hn, ← e]
  · next j want hn =>
    split at e
    · next d hd =>
      split at e
      · next b' hb =>
        simp only [Option.some.injEq] at e
        have := yielded_of G.frame hd hb (by rw [G.size]; exact hg j want d hn hd)
        rw [hn]
        simp only [this]
        rw [← e]
        cases b' <;> cases want <;> rfl
      · cases e
    · cases e

/-- What is asked of a region's operations once for all: their slots lie in the frame; no defer, no select. -/
def opsOk (N : Nat) (ops : Array Oper) : Bool :=
  ops.all fun o => (match o.dst with | some d => decide (d < N) | none => true) && (match o.op with | .defer _ => false | .select .. => false | _ => true)

theorem opsOk_spec {ops : Array Oper} (hk : opsOk N ops = true) {i : Nat} {o : Oper} (hi : ops[i]? = some o) : (∀ d, o.dst = some d → d < N) ∧ (∀ c, o.op ≠ .defer c) ∧ (∀ cs b, o.op ≠ .select cs b) := by
  have := Array.all_eq_true_iff_forall_mem.1 hk o (Array.mem_of_getElem? hi)
  simp only [Bool.and_eq_true] at this
  obtain ⟨h1, h2⟩ := this
  refine ⟨fun d hd => by simpa [hd] using h1, fun c hc => by simp [hc] at h2, fun cs b hc => by simp [hc] at h2⟩

theorem guard_spec {ops : Array Oper} (hk : opsOk N ops = true) : ∀ j want d, o.guard = some (j, want) → (ops[j]?).bind (·.dst) = some d → d < N := by
  intro j want d _ hd
  cases hj : ops[j]? with
  | none => simp [hj] at hd
  | some oj => exact (opsOk_spec hk hj).1 d (by simpa [hj] using hd)

theorem To.trans {w0 : World} {h0 : AHeap} {K : AF → AHeap → Prop} {a' : Act} {w' : World} (x : Stp w0 h0 hf w h) (T : To w h hf N B K a' w') : To w0 h0 hf N B K a' w' := by
  obtain ⟨t', h', k, G, y⟩ := T
  exact ⟨t', h', k, G, x.trans y⟩

theorem awpOps_sound {ops : Array Oper} (hk : opsOk N ops = true) {K : AF → AHeap → Prop} {Q : Exit → Act → World → Prop} : ∀ (os : List Oper) (l : List Nat) (t : AF) (h : AHeap) (a : Act) (w : World), l.map (ops[·]?) = os.map some →
    Good w h hf a t N B → awpOps P ops K os t h → (∀ a' w', To w h hf N B K a' w' → Q .normal a' w') → wpOpsIn (fence ro) 0 P ops Q l a w
  | [], l, t, h, a, w, hl, G, e, hq => by
    have : l = [] := by simpa using hl
    subst this
    exact hq _ _ (To.refl G e)
  | o :: os, l, t, h, a, w, hl, G, e, hq => by
    cases l with
    | nil => simp at hl
    | cons i l =>
      simp only [List.map_cons, List.cons.injEq] at hl
      obtain ⟨hi, hl⟩ := hl
      obtain ⟨hd, hdef, _⟩ := opsOk_spec hk hi
      simp only [awpOps] at e
      rw [wpOpsIn_cons]
      unfold wpOpIn
      rw [hi]
      split at e
      · next hw =>
        simp only [wanted_of G (guard_spec hk) hw, if_true]
        refine Oper.wpIn_mono ?_ (opStep_sound G hd hdef e Q)
        rintro a' w' ⟨t', h', k, G', x⟩
        exact awpOps_sound hk os l t' h' a' w' hl G' k (fun a'' w'' T => hq _ _ (T.trans x))
      · next hw =>
        simp only [wanted_of G (guard_spec hk) hw, Bool.false_eq_true, if_false]
        exact ⟨fun _ _ => trivial, awpOps_sound hk os l _ h _ w hl (G.skip hd) e (fun a'' w'' T => hq _ _ T)⟩
      · exact e.elim
end
end Go.AH
