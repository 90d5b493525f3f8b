/-
  Contracts of functions that leave all memory alone; the frame; what is only lent.
-/
import Derived.Test.YtobhipohnjmnhaaAhSimp
set_option linter.unusedSimpArgs false
set_option linter.unusedVariables false
set_option linter.unusedSectionVars false
namespace Go.AH
open Go

/-- The call hands back r, and of what is owned nothing turns. -/
def Pure (P : Program) (f : FuncId) (args : List AV) (r : AV) : Prop := ∀ h, ACalls P f args h fun r' h' => r' = r ∧ h' = h
def PureV (P : Program) (fv : AV) (args : List AV) (r : AV) : Prop := ∀ h, ACallV P fv args h fun r' h' => r' = r ∧ h' = h

section
variable {P : Program} {h h2 hv : AHeap} {f : FuncId} {args : List AV} {R : AV → AHeap → Prop}

theorem un_cases {h h2 hf : AHeap} (D : Disj (h.un h2) hf) (D2 : Disj h h2) : Disj h (h2.un hf) ∧ (h.un h2).un hf = h.un (h2.un hf) :=
  ⟨Disj.un_right D2 D.of_un_left, AHeap.un_assoc⟩

/-- What a call does not own lies as it lay. -/
theorem ACalls.frame (c : ACalls P f args h R) (D2 : Disj h h2) : ACalls P f args (h.un h2) fun r h' => ∃ h1, h' = h1.un h2 ∧ Disj h1 h2 ∧ R r h1 := by
  refine ⟨c.1, fun hf w vs D Rl rs => ?_⟩
  obtain ⟨D3, e⟩ := un_cases D D2
  rw [e] at Rl rs
  refine CallsIn.mono (c.2 (h2.un hf) w vs D3 Rl rs) ?_
  rintro en w' ⟨v, r, h1, rfl, q, D1, R1, rv, s⟩
  have Da : Disj h1 h2 := fun b => by
    rcases D1 b with e | e
    · exact .inl e
    · exact .inr (AHeap.un_eq_none.1 e).1
  have Db : Disj h1 hf := fun b => by
    rcases D1 b with e | e
    · exact .inl e
    · exact .inr (AHeap.un_eq_none.1 e).2
  have e1 : (h1.un h2).un hf = h1.un (h2.un hf) := AHeap.un_assoc
  refine ⟨v, r, h1.un h2, rfl, ⟨h1, rfl, Da, q⟩, Disj.un_left Db D.of_un_right, by rw [e1]; exact R1, by rw [e1]; exact rv, ⟨by rw [e, e1]; exact s.ext, fun b hb => s.fr b fun hn => hb (AHeap.un_eq_none.1 hn).2⟩⟩

theorem pure_of {r : AV} (c : ACalls P f args AHeap.empty fun r' _ => r' = r) : Pure P f args r := by
  intro h
  have c1 : ACalls P f args AHeap.empty fun r' h' => r' = r ∧ h' = AHeap.empty := by
    refine ⟨c.1, fun hf w vs D Rl rs => CallsIn.mono (c.2 hf w vs D Rl rs) ?_⟩
    rintro en w' ⟨v, r', h1, rfl, q, D1, R1, rv, s⟩
    have sb := SubH.empty 0 h1
    exact ⟨v, r', AHeap.empty, rfl, ⟨q, rfl⟩, sb.disj D1, sb.rel R1 D1, rv.ext (sb.ext D1), s.trans (sb.stp D1)⟩
  have := ACalls.frame c1 (h2 := h) Disj.empty
  rw [AHeap.empty_un] at this
  refine ACalls.mono this ?_
  rintro r' h' ⟨h1, e, _, e2, e3⟩
  subst e3
  exact ⟨e2, e⟩

/-- What hangs on no memory. -/
def AV.bare : AV → Bool
  | .undef | .bool _ | .int _ _ | .str _ | .nilsl | .nilptr | .nilmap | .nilfn | .nilif => true
  | _ => false
def AV.bare1 : AV → Bool
  | .tup vs => vs.all AV.bare
  | .agg vs => vs.all AV.bare && vs.all AV.one
  | a => a.bare

theorem Rep.bare {w w' : World} {g g' : AHeap} {v : Value} {a : AV} (r : Rep w g v a) (hb : a.bare = true) : Rep w' g' v a := by
  cases r <;> first
    | exact .undef _ | exact .bool _ | exact .int _ _ | exact .str _ | exact .nilsl | exact .nilptr | exact .nilmap | exact .nilfn | exact .nilif
    | simp [AV.bare] at hb

theorem Rep.bare1 {w w' : World} {g g' : AHeap} {v : Value} {a : AV} (r : Rep w g v a) (hb : a.bare1 = true) : Rep w' g' v a := by
  cases a <;> first
    | exact r.bare hb
    | skip
  · rename_i cells
    obtain ⟨vs, rfl, h1, h2, h3⟩ := r.inv_agg
    simp only [AV.bare1, Bool.and_eq_true, List.all_eq_true] at hb
    exact .agg h1 h2 fun i hi hj => (h3.2 i hi hj).bare (hb.1 _ (List.getElem_mem hj))
  · rename_i cells
    obtain ⟨vs, rfl, h3⟩ := r.inv_tup
    simp only [AV.bare1, List.all_eq_true] at hb
    exact .tup h3.1 fun i hi hj => (h3.2 i hi hj).bare (hb _ (List.getElem_mem hj))

/-- Owned blocks are lent to a call that only reads, and hands back what hangs on no memory. -/
theorem acalls_lend {k : Nat} {r : AV} (hr : r.bare1 = true) (c : Pure P f (args.map (frzF k h AHeap.empty)) r) : ACalls P f args h fun r' h' => r' = r ∧ h' = h := by
  have c0 := c AHeap.empty
  refine ⟨c0.1, fun hf w vs D Rl rs => ?_⟩
  have rs' : RepL w hf vs (args.map (frzF k h AHeap.empty)) := by
    have := rs.conv (g' := AHeap.empty.un hf) (frzF k h AHeap.empty) (fun v a q => frz_sound Rl D (fun _ _ => rfl) k v a q)
    simpa using this
  have Rf : Rel w hf := by
    have := (SubH.empty k h).rel Rl D
    simpa using this
  refine CallsIn.mono (c0.2 hf w vs Disj.empty (by simpa using Rf) (by simpa using rs')) ?_
  rintro en w' ⟨v, r', h1, rfl, ⟨rfl, rfl⟩, D1, R1, rv, s⟩
  simp only [AHeap.empty_un] at R1 rv
  have hext := s.ext
  simp only [AHeap.empty_un] at hext
  -- every block that was there lies as it lay
  have hall : ∀ b, b < w.heap.size → w'.heap[b]? = w.heap[b]? := fun b hb => by
    cases hc : hf b with
    | none => exact (hext.keep b hb hc).2
    | some c => exact s.fr b (by rw [hc]; simp)
  have x : Ext w (h.un hf) w' (h.un hf) := ⟨hext.size, fun b hb hn => ⟨hn, hall b hb⟩, hext.shape, hext.os, hext.tape, hext.output⟩
  refine ⟨v, r', h, rfl, ⟨rfl, rfl⟩, D, ?_, rv.bare1 hr, ⟨x, s.fr⟩⟩
  exact Rl.step x fun b c hc => .inl ⟨hc, hall b (Rl.lt hc)⟩

/-- A call of a contract that turns nothing. -/
theorem Pure.use {r : AV} (c : Pure P f args r) (k : R r h) : ACalls P f args h R := ACalls.mono (c h) fun r' h' ⟨e1, e2⟩ => by subst e1; subst e2; exact k
theorem Pure.lend {k : Nat} {r : AV} (hr : r.bare1 = true) (c : Pure P f (args.map (frzF k h AHeap.empty)) r) (q : R r h) : ACalls P f args h R :=
  ACalls.mono (acalls_lend hr c) fun r' h' ⟨e1, e2⟩ => by subst e1; subst e2; exact q

/-! ### loops -/
variable {body : (Exit → AF → AHeap → Prop) → AF → AHeap → Prop} {Q : Exit → AF → AHeap → Prop} {t : AF}
/-- A loop with a ghost. -/
theorem loop_g {γ : Type} (I : γ → AF → AHeap → Prop) (μ : γ → Nat) (g0 : γ) (h0 : turnA (I g0) t h)
    (round : ∀ g t h, I g t h → body (thenA (turnA fun t' h' => ∃ g', μ g' < μ g ∧ I g' t' h') (fun e => turnA (Q e))) t h)
    (mono : ∀ (Q Q' : Exit → AF → AHeap → Prop) t h, (∀ e t h, Q e t h → Q' e t h) → body Q t h → body Q' t h) : awpLoop body Q t h := by
  refine ⟨fun n t h => ∃ g, μ g = n ∧ I g t h, μ g0, ?_, ?_⟩
  · obtain ⟨k, h', t', a, b, c⟩ := h0
    exact ⟨k, h', t', a, b, g0, rfl, c⟩
  · rintro n t h ⟨g, rfl, i⟩
    refine mono _ _ t h ?_ (round g t h i)
    intro e t h q
    cases e <;> first | exact q | skip
    obtain ⟨k, h', t', a, b, g', hlt, i'⟩ := q
    exact ⟨k, h', t', a, b, μ g', hlt, g', rfl, i'⟩
end

section
variable {P : Program} {t : AF} {h : AHeap} {ro : Option Nat} {N : Nat}
theorem opStep_mono {o : Oper} {K K' : AF → AHeap → Prop} (e : opStep P o K t h) (hk : ∀ t h, K t h → K' t h) : opStep P o K' t h := opRes_mono e fun _ _ q => hk _ _ q

theorem awpOps_mono {ops : Array Oper} {K K' : AF → AHeap → Prop} (hk : ∀ t h, K t h → K' t h) : ∀ (os : List Oper) (t : AF) (h : AHeap), awpOps P ops K os t h → awpOps P ops K' os t h
  | [], t, h, e => hk t h e
  | o :: os, t, h, e => by
    simp only [awpOps] at e ⊢
    split at e
    · next hw => exact opStep_mono e fun t h => awpOps_mono hk os t h
    · next hw => exact awpOps_mono hk os _ h e
    · exact e.elim

theorem turnA_mono {K K' : AF → AHeap → Prop} (e : turnA K t h) (hk : ∀ t h, K t h → K' t h) : turnA K' t h := by
  obtain ⟨k, h', t', a, b, c⟩ := e
  exact ⟨k, h', t', a, b, hk _ _ c⟩

theorem awp_mono : ∀ (c : Code) (Q Q' : Exit → AF → AHeap → Prop) (t : AF) (h : AHeap), (∀ e t h, Q e t h → Q' e t h) → awp P ro N c Q t h → awp P ro N c Q' t h := by
  intro c
  induction c with
  | skip => intro Q Q' t h hq e; exact hq _ _ _ e
  | label l => intro Q Q' t h hq e; exact hq _ _ _ e
  | exit id => intro Q Q' t h hq e; exact hq _ _ _ e
  | ret => intro Q Q' t h hq e; exact hq _ _ _ e
  | goto l => intro Q Q' t h hq e; exact e.elim
  | refuse why => intro Q Q' t h hq e; exact e.elim
  | rangeFunc f ps as b _ _ => intro Q Q' t h hq e; exact AWP.mono e hq
  | scope c _ => intro Q Q' t h hq e; exact AWP.mono e hq
  | region id ops draw =>
    intro Q Q' t h hq e
    cases draw with
    | true => exact AWP.mono e hq
    | false => exact awpOps_mono (hq _) _ _ _ e
  | seq x y ihx ihy =>
    intro Q Q' t h hq e
    refine ihx _ _ t h ?_ e
    intro ex t h q
    cases ex <;> first | exact ihy _ _ t h hq q | exact hq _ _ _ q
  | cond c x y ihx ihy =>
    intro Q Q' t h hq e
    simp only [awp, condA] at e ⊢
    split at e
    · exact ⟨fun hb => ihx _ _ t h hq (e.1 hb), fun hb => ihy _ _ t h hq (e.2 hb)⟩
    · exact e.elim
  | block id c ih =>
    intro Q Q' t h hq e
    refine ih _ _ t h ?_ e
    intro ex t h q
    cases ex <;> first | exact hq _ _ _ q | skip
    simp only [blockA] at q ⊢
    split
    · next he => rw [if_pos he] at q; exact hq _ _ _ q
    · next he => rw [if_neg he] at q; exact hq _ _ _ q
  | loop c ih =>
    intro Q Q' t h hq e
    obtain ⟨I, n, h0, hr⟩ := e
    refine ⟨I, n, h0, fun n t h i => ih _ _ t h ?_ (hr n t h i)⟩
    intro ex t h q
    cases ex <;> first | exact q | exact turnA_mono q (hq _)

/-- A loop of the calculus: an invariant over a ghost, a number that every round lowers. -/
theorem awp_loop_g {γ : Type} {c : Code} {Q : Exit → AF → AHeap → Prop} (I : γ → AF → AHeap → Prop) (μ : γ → Nat) (g0 : γ) (h0 : turnA (I g0) t h)
    (round : ∀ g t h, I g t h → awp P ro N c (thenA (turnA fun t' h' => ∃ g', μ g' < μ g ∧ I g' t' h') Q) t h) : awpLoop (awp P ro N c) Q t h :=
  loop_g I μ g0 h0 (fun g t h i => awp_mono c _ _ t h (fun e t h q => by cases e <;> first | exact q | exact turnA_self q) (round g t h i)) fun Q Q' t h => awp_mono c Q Q' t h
/-- The same; where the loop is left, blocks may be given up. -/
theorem awp_loop_t {γ : Type} {c : Code} {Q : Exit → AF → AHeap → Prop} (I : γ → AF → AHeap → Prop) (μ : γ → Nat) (g0 : γ) (h0 : turnA (I g0) t h)
    (round : ∀ g t h, I g t h → awp P ro N c (thenA (turnA fun t' h' => ∃ g', μ g' < μ g ∧ I g' t' h') (fun e => turnA (Q e))) t h) : awpLoop (awp P ro N c) Q t h :=
  loop_g I μ g0 h0 round fun Q Q' t h => awp_mono c Q Q' t h
end
end Go.AH
