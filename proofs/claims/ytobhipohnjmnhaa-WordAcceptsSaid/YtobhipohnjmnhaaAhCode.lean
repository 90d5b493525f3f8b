/-
  The abstract calculus over code; functions.
-/
import Derived.Test.YtobhipohnjmnhaaAhTurn
set_option linter.unusedSimpArgs false
set_option linter.unusedVariables false
set_option linter.unusedSectionVars false
namespace Go.AH
open Go

/-- A piece of code, in the model. -/
def AWP (P : Program) (ro : Option Nat) (N : Nat) (c : Code) (Q : Exit → AF → AHeap → Prop) (t : AF) (h : AHeap) : Prop :=
  ∀ hf B w a, Good w h hf a t N B → c.wpIn (fence ro) 0 P (fun e a' w' => To w h hf N B (Q e) a' w') a w

def thenA (K : AF → AHeap → Prop) (Q : Exit → AF → AHeap → Prop) : Exit → AF → AHeap → Prop
  | .normal => K
  | e => Q e
def blockA (id : Nat) (Q : Exit → AF → AHeap → Prop) : Exit → AF → AHeap → Prop
  | .exit id' => if id' = id then Q .normal else Q (.exit id')
  | e => Q e
def condA (c : AV) (X Y : Prop) : Prop := match c with
  | .bool b => (b = true → X) ∧ (b = false → Y)
  | _ => False
/-- A loop: an invariant with a number that every round lowers. -/
def awpLoop (body : (Exit → AF → AHeap → Prop) → AF → AHeap → Prop) (Q : Exit → AF → AHeap → Prop) (t : AF) (h : AHeap) : Prop :=
  ∃ (I : Nat → AF → AHeap → Prop) (n : Nat), turnA (I n) t h ∧ ∀ n t h, I n t h → body (thenA (turnA fun t' h' => ∃ n', n' < n ∧ I n' t' h') (fun e => turnA (Q e))) t h

noncomputable def awp (P : Program) (ro : Option Nat) (N : Nat) : Code → (Exit → AF → AHeap → Prop) → AF → AHeap → Prop
  | .skip, Q, t, h => Q .normal t h
  | .label _, Q, t, h => Q .normal t h
  | .region id ops draw, Q, t, h => match draw with
    | false => awpOps P ops (Q .normal) ops.toList t h
    | true => AWP P ro N (.region id ops true) Q t h
  | .seq x y, Q, t, h => awp P ro N x (thenA (awp P ro N y Q) Q) t h
  | .cond c x y, Q, t, h => condA (evalA t c) (awp P ro N x Q t h) (awp P ro N y Q t h)
  | .block id c, Q, t, h => awp P ro N c (blockA id Q) t h
  | .loop c, Q, t, h => awpLoop (awp P ro N c) Q t h
  | .exit id, Q, t, h => Q (.exit id) t h
  | .ret, Q, t, h => Q .ret t h
  | .rangeFunc f ps as b, Q, t, h => AWP P ro N (.rangeFunc f ps as b) Q t h
  | .scope c, Q, t, h => AWP P ro N (.scope c) Q t h
  | _, _, _, _ => False

/-- What is asked of code once for all. -/
def codeOk (N : Nat) : Code → Bool
  | .region _ ops _ => opsOk N ops
  | .seq x y => codeOk N x && codeOk N y
  | .cond _ x y => codeOk N x && codeOk N y
  | .block _ c => codeOk N c
  | .loop c => codeOk N c
  | .scope c => codeOk N c
  | .rangeFunc _ _ x y => codeOk N x && codeOk N y
  | _ => true

section
variable {P : Program} {w : World} {h h' hf : AHeap} {t t' : AF} {a : Act} {N B : Nat} {ro : Option Nat}

theorem range_map (ops : Array Oper) : (List.range ops.size).map (ops[·]?) = ops.toList.map some := by
  apply List.ext_getElem?
  intro i
  simp only [List.getElem?_map, List.getElem?_range']
  rcases Nat.lt_or_ge i ops.size with hi | hi
  · simp [hi, List.getElem?_range hi]
  · rw [List.getElem?_eq_none (by simpa using hi), List.getElem?_eq_none (by simpa using hi)]; rfl

theorem AWP.mono {c : Code} {Q Q' : Exit → AF → AHeap → Prop} (x : AWP P ro N c Q t h) (hq : ∀ e t h, Q e t h → Q' e t h) : AWP P ro N c Q' t h :=
  fun hf B w a G => wpIn_mono (x hf B w a G) fun e _ _ T => T.mono (hq e)

theorem AWP.turn {c : Code} {Q : Exit → AF → AHeap → Prop} (x : turnA (AWP P ro N c Q) t h) : AWP P ro N c Q t h := by
  obtain ⟨k, h', t', s, ht, q⟩ := x
  intro hf B w a G
  exact wpIn_mono (q hf B w a (G.turn s ht)) fun e a' w' T => T.trans (s.stp G.disj)

theorem awp_sound : ∀ (c : Code) (Q : Exit → AF → AHeap → Prop) (t : AF) (h : AHeap), codeOk N c = true → awp P ro N c Q t h → AWP P ro N c Q t h := by
  intro c
  induction c with
  | skip => intro Q t h _ e hf B w a G; exact wpIn_skip (To.refl G e)
  | label l => intro Q t h _ e hf B w a G; exact wpIn_label (To.refl G e)
  | exit id => intro Q t h _ e hf B w a G; exact wpIn_exit (To.refl G e)
  | ret => intro Q t h _ e hf B w a G; exact wpIn_ret (To.refl G e)
  | goto l => intro Q t h _ e; exact e.elim
  | refuse why => intro Q t h _ e; exact e.elim
  | rangeFunc f ps as b _ _ => intro Q t h _ e; exact e
  | scope c _ => intro Q t h _ e; exact e
  | region id ops draw =>
    intro Q t h hk e
    cases draw with
    | true => exact e
    | false =>
      intro hf B w a G
      exact wpIn_region (awpOps_sound (K := Q .normal) hk ops.toList (List.range ops.size) t h a w (range_map ops) G e (fun _ _ T => T))
  | seq x y ihx ihy =>
    intro Q t h hk e hf B w a G
    simp only [codeOk, Bool.and_eq_true] at hk
    refine wpIn_seq (wpIn_mono (ihx _ t h hk.1 e hf B w a G) ?_)
    intro ex a' w' T
    cases ex with
    | normal =>
      obtain ⟨t', h', k, G', s⟩ := T
      exact wpIn_mono (ihy Q t' h' hk.2 k hf B w' a' G') fun e a'' w'' T' => T'.trans s
    | exit id => exact T
    | goto l => exact T
    | ret => exact T
    | panic ch => exact T
    | outgrown => exact T
  | cond c x y ihx ihy =>
    intro Q t h hk e hf B w a G
    simp only [codeOk, Bool.and_eq_true] at hk
    simp only [awp, condA] at e
    split at e
    · next b hb =>
      have hc := (hb ▸ G.eval c : Rep w (h.un hf) (a.eval c) (.bool b)).inv_bool
      cases b with
      | true => exact wpIn_cond_true hc (ihx Q t h hk.1 (e.1 rfl) hf B w a G)
      | false => exact wpIn_cond_false hc (ihy Q t h hk.2 (e.2 rfl) hf B w a G)
    · exact e.elim
  | block id c ih =>
    intro Q t h hk e hf B w a G
    refine wpIn_block (wpIn_mono (ih _ t h hk e hf B w a G) ?_)
    intro ex a' w' T
    cases ex with
    | exit id' =>
      simp only [Exit.inBlock, blockA] at T ⊢
      split
      · next he => rw [if_pos he] at T; exact T
      · next he => rw [if_neg he] at T; exact T
    | normal => exact T
    | goto l => exact T
    | ret => exact T
    | panic ch => exact T
    | outgrown => exact T
  | loop c ih =>
    intro Q t h hk e hf B w a G
    obtain ⟨I, n0, i0, hround⟩ := e
    obtain ⟨k0, h0, t0, s0, ht0, q0⟩ := i0
    have G0 := G.turn s0 ht0
    refine wpIn_mono (wpIn_loop_ghost (Q := fun e a' w' => To w h0 hf N B (Q e) a' w') (fun n a' w' => ∃ t' h', I n t' h' ∧ Good w' h' hf a' t' N B ∧ Stp w h0 hf w' h') n0 ⟨t0, h0, q0, G0, .refl _ _ _⟩ ?_) (fun e a' w' T => T.trans (s0.stp G.disj))
    rintro n a' w' ⟨t', h', i, G', s⟩
    refine wpIn_mono (ih _ t' h' hk (hround n t' h' i) hf B w' a' G') ?_
    intro ex a'' w'' T
    cases ex with
    | normal =>
      obtain ⟨t2, h2, ⟨n', hlt, i'⟩, G2, s2⟩ := To.turn T
      exact ⟨n', hlt, t2, h2, i', G2, s.trans s2⟩
    | exit id => exact (To.turn T).trans s
    | goto l => exact (To.turn T).trans s
    | ret => exact (To.turn T).trans s
    | panic ch => exact (To.turn T).trans s
    | outgrown => exact (To.turn T).trans s

/-! ### Functions -/
def resA (P : Program) (t : AF) (h : AHeap) : ResultVar → Option AV
  | .tmp i => some (t i)
  | .cell a ty => match t a with
    | .ptr b off => match h b with
      | some (.cells cs) => loadA P ty (cs.drop off)
      | _ => none
    | .fptr cells => loadA P ty cells
    | _ => none
def resL (P : Program) (t : AF) (h : AHeap) : List ResultVar → Option (List AV)
  | [] => some []
  | r :: rs => match resA P t h r, resL P t h rs with
    | some v, some vs => some (v :: vs)
    | _, _ => none
/-- What a function hands back. -/
def resultsA (P : Program) (t : AF) (h : AHeap) (rs : List ResultVar) : Option AV :=
  match resL P t h rs with
  | some [v] => some v
  | some vs => some (.tup vs)
  | none => none

def entryF (args : List AV) : AF := fun i => args.getD i .undef

def retQ (P : Program) (rs : List ResultVar) (R : AV → AHeap → Prop) : Exit → AF → AHeap → Prop
  | .normal, t, h => match resultsA P t h rs with | some r => finA R r h | none => False
  | .ret, t, h => match resultsA P t h rs with | some r => finA R r h | none => False
  | _, _, _ => False

theorem run_resA {g : AHeap} (R : Rel w g) (hsub : ∀ b c, h b = some c → g b = some c) {tmps : Array Value} (r : RepF w g tmps t) {x : ResultVar} {v : AV} (e : resA P t h x = some v) :
    ∃ y, (match x with | .tmp i => pure (tmps.getD i undef) | .cell a ty => do loadVar ty (← asAddr (tmps.getD a undef)) : Sem Value).run P w = .ok y w ∧ Rep w g y v := by
  cases x with
  | tmp i => simp only [resA, Option.some.injEq] at e; subst e; exact ⟨_, rfl, r i⟩
  | cell ad ty =>
    simp only [resA] at e
    split at e
    · next b off hp =>
      split at e
      · next cs hb =>
        have hv := (hp ▸ r ad : Rep w g (tmps.getD ad undef) (.ptr b off)).inv_ptr
        have hcl := (Rel.cells R (hsub _ _ hb)).drop off
        rw [Nat.zero_add] at hcl
        obtain ⟨y, h1, h2⟩ := run_loadVar (P := P) hcl e
        exact ⟨y, by simp only [hv, asAddr, Sem.run_bind, Sem.run_pure, Result.andThen, h1], h2⟩
      · cases e
    · next cells hp =>
      obtain ⟨b, off, hv, _, _, hcl⟩ := cells_of_fptr (hp ▸ r ad : Rep w g (tmps.getD ad undef) (.fptr cells))
      obtain ⟨y, h1, h2⟩ := run_loadVar (P := P) hcl e
      exact ⟨y, by simp only [hv, asAddr, Sem.run_bind, Sem.run_pure, Result.andThen, h1], h2⟩
    · cases e

theorem run_resL {g : AHeap} (R : Rel w g) (hsub : ∀ b c, h b = some c → g b = some c) {tmps : Array Value} (r : RepF w g tmps t) : ∀ (xs : List ResultVar) (vs : List AV), resL P t h xs = some vs →
    ∃ ys, (xs.mapM fun | .tmp i => pure (tmps.getD i undef) | .cell a ty => do loadVar ty (← asAddr (tmps.getD a undef)) : Sem (List Value)).run P w = .ok ys w ∧ RepL w g ys vs
  | [], vs, e => by simp only [resL, Option.some.injEq] at e; subst e; exact ⟨[], rfl, .nil⟩
  | x :: xs, vs, e => by
    simp only [resL] at e
    split at e
    · next v vs' hv hvs =>
      cases e
      obtain ⟨y, h1, h2⟩ := run_resA (P := P) R hsub r hv
      obtain ⟨ys, h3, h4⟩ := run_resL R hsub r xs vs' hvs
      refine ⟨y :: ys, ?_, .cons h2 h4⟩
      rw [List.mapM_cons, Sem.run_bind]
      cases x with
      | tmp i => simp only at h1 ⊢; rw [h1]; simp only [Result.andThen, Sem.run_bind]; rw [h3]; rfl
      | cell ad ty => simp only at h1 ⊢; rw [h1]; simp only [Result.andThen, Sem.run_bind]; rw [h3]; rfl
    · cases e

theorem run_results {g : AHeap} (R : Rel w g) (hsub : ∀ b c, h b = some c → g b = some c) {tmps : Array Value} (r : RepF w g tmps t) {fn : Func} {v : AV} (e : resultsA P t h fn.results.toList = some v) :
    ∃ y, (results fn tmps).run P w = .ok y w ∧ Rep w g y v := by
  unfold resultsA at e
  cases hl : resL P t h fn.results.toList with
  | none => rw [hl] at e; cases e
  | some vs =>
    obtain ⟨ys, h1, h2⟩ := run_resL (P := P) R hsub r _ _ hl
    have hm : (fn.results.mapM fun | .tmp i => pure (tmps.getD i undef) | .cell a ty => do loadVar ty (← asAddr (tmps.getD a undef)) : Sem (Array Value)).run P w = .ok ys.toArray w := by
      rw [Array.mapM_eq_mapM_toList, Sem.run_map, h1]; rfl
    rw [hl] at e
    have hres : (results fn tmps).run P w = .ok (if h : ys.toArray.size = 1 then ys.toArray[0] else .tuple ys.toArray) w := by
      unfold results
      rw [Sem.run_bind]
      exact congrArg (fun r => Result.andThen r fun (vs : Array Value) w' => (pure (if h : vs.size = 1 then vs[0] else .tuple vs) : Sem Value).run P w') hm
    rw [hres]
    split at e
    · next v' heq =>
      simp only [Option.some.injEq] at heq e
      subst heq; subst e
      obtain ⟨y, ys', rfl, r1, r2⟩ := h2.uncons
      have : ys' = [] := List.eq_nil_of_length_eq_zero (by have := r2.1; simpa using this)
      subst this
      exact ⟨y, by simp, r1⟩
    · next vs' hne heq =>
      simp only [Option.some.injEq] at heq e
      subst heq; subst e
      have hlen : ys.toArray.size ≠ 1 := by
        intro h1'
        have hl1 : vs.length = 1 := by rw [← h2.1]; simpa using h1'
        obtain ⟨x, hx⟩ := List.length_eq_one_iff.1 hl1
        exact hne x (by rw [hx])
      exact ⟨.tuple ys.toArray, by rw [dif_neg hlen], .tup h2.1 h2.2⟩
    · next heq => cases heq

/-- A block that is no row of cells turns: what values stand for does not. -/
theorem Rep.other {g : AHeap} {r : Nat} {o o' : Obj} (ho : w.heap[r]? = some o) (hn : ∀ c e f, o ≠ .cells c e f) {v : Value} {x : AV} (q : Rep w g v x) : Rep (w.putObj r o') g v x := by
  have hc : ∀ (ad : Addr) (u : Value), w.cell? ad = some u → (w.putObj r o').cell? ad = some u := by
    intro ad u hu
    have hne : ad.block ≠ r := by
      intro e
      unfold World.cell? at hu
      rw [e, ho] at hu
      cases o <;> first | (exact absurd rfl (hn _ _ _)) | cases hu
    rw [← hu]
    exact World.cell?_of_block (w := w) (World.putObj_heap_other hne)
  induction q with
  | undef v => exact .undef v
  | bool b => exact .bool b
  | int k n => exact .int k n
  | str s => exact .str s
  | nilsl => exact .nilsl
  | sl0 a n c hn => exact .sl0 a n c hn
  | sl hn hb hlt hcc ho _ ih => exact .sl hn hb (by simpa using hlt) (fun i hi => hc _ _ (hcc i hi)) ho ih
  | osl hn2 hs =>
    obtain ⟨cs, e, fr, h1, h2⟩ := hs
    refine .osl hn2 ⟨cs, e, fr, ?_, h2⟩
    rw [World.putObj_heap_other]
    · exact h1
    · intro e; rw [e, ho] at h1; cases h1; exact absurd rfl (hn _ _ _)
  | nilptr => exact .nilptr
  | ptr b off => exact .ptr b off
  | fptr hb hlt hcc ho _ ih => exact .fptr hb (by simpa using hlt) (fun i hi => hc _ _ (hcc i hi)) ho ih
  | nilmap => exact .nilmap
  | map b => exact .map b
  | fn h1 h2 _ _ ih1 ih2 => exact .fn h1 h2 ih1 ih2
  | nilfn => exact .nilfn
  | nilif => exact .nilif
  | iface _ ih => exact .iface ih
  | agg h1 ho _ ih => exact .agg h1 ho ih
  | tup h1 _ ih => exact .tup h1 ih

theorem Rel.other {g : AHeap} {r : Nat} {o o' : Obj} (ho : w.heap[r]? = some o) (hn : ∀ c e f, o ≠ .cells c e f) (hg : g r = none) (R : Rel w g) : Rel (w.putObj r o') g := by
  intro b c e
  have hne : b ≠ r := fun e' => by rw [e', hg] at e; cases e
  have hb : (w.putObj r o').heap[b]? = w.heap[b]? := World.putObj_heap_other hne
  have k := R b c e
  cases c with
  | cells cs => obtain ⟨vs, ty, h1, h2, h3, h4⟩ := k; exact ⟨vs, ty, hb.trans h1, h2, h3, fun i hi hj => (h4 i hi hj).other ho hn⟩
  | map sh es => obtain ⟨vs, cl, h1, h2, h3, h4⟩ := k; exact ⟨vs, cl, hb.trans h1, h2, h3, fun i hi hj => ⟨(h4 i hi hj).1.other ho hn, (h4 i hi hj).2.other ho hn⟩⟩
  | sit s p => exact hb.trans k
  | loop r t => exact ⟨hb.trans k.1, fun i => (k.2 i).other ho hn⟩

/-- On the way out the marks are taken. -/
theorem leaves {fn : Func} {R : AV → AHeap → Prop} {w0 : World} {h0 : AHeap} {v : AV} (ev : resultsA P t h fn.results.toList = some v) (hR : finA R v h) : ∀ (rs : List Nat) (w : World), Disj h hf → Rel w (h.un hf) → RepF w (h.un hf) a.tmps t → rs.Nodup →
    (∀ r ∈ rs, w0.heap.size ≤ r ∧ r < w.heap.size ∧ (h.un hf) r = none ∧ w.heap[r]? = some (.deferred (some []))) → Stp w0 h0 hf w h →
    LeavesInM (fence none) 0 P fn a.tmps (RetTo w0 h0 hf R) (rs.map fun r => { target := .collected r, args := #[] }) .returning w
  | [], w, D, Rl, F, _, _, s => by
    obtain ⟨y, h1, h2⟩ := run_results (P := P) Rl (fun b c hb => AHeap.un_some hb) F ev
    obtain ⟨k, h', r', sb, hr, q⟩ := hR
    refine ⟨y, h1, y, r', h', rfl, q, sb.disj D, sb.rel Rl D, ?_, s.trans (sb.stp D)⟩
    rcases hr with rfl | rfl
    · exact h2.ext (sb.ext D)
    · exact frz_sound Rl D (fun b => sb.none) k _ _ h2
  | r :: rs, w, D, Rl, F, hnd, hrs, s => by
    obtain ⟨q1, q2, q3, q4⟩ := hrs r (by simp)
    have hno : ∀ c e f, Obj.deferred (some []) ≠ .cells c e f := fun _ _ _ h => by cases h
    refine ⟨by simp, .inl ⟨r, w.putObj r (.deferred none), rfl, run_takeDeferred q4, ?_⟩⟩
    have hnd' := List.nodup_cons.1 hnd
    refine leaves ev hR rs _ D (Rl.other q4 hno q3) (fun i => (F i).other q4 hno) hnd'.2 (fun r' hr' => ?_) ?_
    · obtain ⟨p1, p2, p3, p4⟩ := hrs r' (by simp [hr'])
      have hne : r' ≠ r := fun e => hnd'.1 (e ▸ hr')
      exact ⟨p1, by simpa using p2, p3, (World.putObj_heap_other hne).trans p4⟩
    · refine ⟨⟨by simpa using s.ext.size, fun b hb hn => ?_, fun b cs e fr hc => ?_, s.ext.os, s.ext.tape, s.ext.output⟩, fun b hb => ?_⟩
      · obtain ⟨e1, e2⟩ := s.ext.keep b hb hn
        exact ⟨e1, (World.putObj_heap_other (by omega)).trans e2⟩
      · obtain ⟨cs', fr', e1, e2⟩ := s.ext.shape b cs e fr hc
        have hne : b ≠ r := fun e' => by rw [e', q4] at e1; cases e1
        exact ⟨cs', fr', (World.putObj_heap_other hne).trans e1, e2⟩
      · have hne : b ≠ r := fun e' => hb (e' ▸ (AHeap.un_eq_none.1 q3).2)
        exact (World.putObj_heap_other hne).trans (s.fr b hb)

/-- **A function's contract out of its body.** -/
theorem acalls_of {f : FuncId} {fn : Func} {c : Code} {args : List AV} {R : AV → AHeap → Prop} (hf' : P.funcs[f]? = some fn) (hb : fn.body = some c) (hcall : ∀ (args : Array Value) (w : World), (callFunc f args).run P w = .ok (.enter f args) w)
    (hk : codeOk fn.ntmps c = true) (hn : args.length ≤ fn.ntmps) (hw : awp P none fn.ntmps c (retQ P fn.results.toList R) (entryF args) h) : ACalls P f args h R := by
  refine ⟨hcall, fun hf w vs D Rl rs => ?_⟩
  refine callsIn_of_wp_marks hf' hb trivial ?_ rfl
  have hvl := rs.1
  have G : Good w h hf { tmps := vs.toArray ++ Array.replicate (fn.ntmps - vs.toArray.size) undef, defers := [] } (entryF args) fn.ntmps w.heap.size := by
    refine ⟨D, Rl, fun i => ?_, by simp; omega, ⟨[], rfl, List.nodup_nil, fun r hr => absurd hr (by simp)⟩, Nat.le_refl _⟩
    by_cases hi : i < vs.length
    · have hj : i < args.length := by omega
      have := rs.2 i hi hj
      simpa [entryF, hi, hj, Array.getElem?_append] using this
    · have hj : ¬ i < args.length := by omega
      have e : entryF args i = .undef := by simp [entryF, List.getElem?_eq_none (by omega : args.length ≤ i)]
      rw [e]; exact .undef _
  refine wpIn_mono (awp_sound c _ _ h hk hw hf w.heap.size w _ G) ?_
  intro e a' w' T
  have out : ∀ {v : AV} {t' : AF} {h' : AHeap}, resultsA P t' h' fn.results.toList = some v → finA R v h' → Good w' h' hf a' t' fn.ntmps w.heap.size → Stp w h hf w' h' →
      LeavesInM (fence none) 0 P fn a'.tmps (RetTo w h hf R) a'.defers .returning w' := by
    intro v t' h' ev hfin G' s
    obtain ⟨rs', e1, e2, e3⟩ := G'.defers
    rw [e1]
    exact leaves ev hfin rs' w' G'.disj G'.rel G'.frame e2 e3 s
  cases e with
  | normal =>
    obtain ⟨t', h', k, G', s⟩ := T
    simp only [retQ] at k
    split at k
    · next r hr => exact out hr k G' s
    · exact k.elim
  | ret =>
    obtain ⟨t', h', k, G', s⟩ := T
    simp only [retQ] at k
    split at k
    · next r hr => exact out hr k G' s
    · exact k.elim
  | exit id => obtain ⟨t', h', k, _⟩ := T; exact k.elim
  | goto l => obtain ⟨t', h', k, _⟩ := T; exact k.elim
  | panic ch => obtain ⟨t', h', k, _⟩ := T; exact k.elim
  | outgrown => obtain ⟨t', h', k, _⟩ := T; exact k.elim
end
end Go.AH
