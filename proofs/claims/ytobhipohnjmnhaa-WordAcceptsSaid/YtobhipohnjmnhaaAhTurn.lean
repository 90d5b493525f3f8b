/-
  What is owned may be given up: from then on it is read-only, and told by value.
-/
import Derived.Test.YtobhipohnjmnhaaAhWp
set_option linter.unusedSimpArgs false
set_option linter.unusedVariables false
set_option linter.unusedSectionVars false
namespace Go.AH
open Go

/-- The value told anew where the blocks of h that are not in h' are read-only. -/
def frzF : Nat → AHeap → AHeap → AV → AV
  | 0, _, _, a => a
  | k + 1, h, h', a => match a with
    | .osl b off n es => match h b, h' b with
      | some (.cells cs), none => if off + n * es ≤ cs.length then .sl n (((cs.drop off).take (n * es)).map (frzF k h h')) else .osl b off n es
      | _, _ => .osl b off n es
    | .ptr b off => match h b, h' b with
      | some (.cells cs), none => .fptr ((cs.drop off).map (frzF k h h'))
      | _, _ => .ptr b off
    | .sl n cs => .sl n (cs.map (frzF k h h'))
    | .fptr cs => .fptr (cs.map (frzF k h h'))
    | .agg cs => .agg (cs.map (frzF k h h'))
    | .tup cs => .tup (cs.map (frzF k h h'))
    | .fn f fa ca => .fn f (fa.map (frzF k h h')) (ca.map (frzF k h h'))
    | .iface t v => .iface t (frzF k h h' v)
    | a => a

/-- h' is h with some blocks given up. -/
def SubH (k : Nat) (h h' : AHeap) : Prop := ∀ b, h' b = none ∨ h' b = h b ∨ ∃ cs, h b = some (.cells cs) ∧ h' b = some (.cells (cs.map (frzF k h h')))

def TurnF (k : Nat) (h h' : AHeap) (t t' : AF) : Prop := ∀ i, t' i = t i ∨ t' i = frzF k h h' (t i)

def turnA (K : AF → AHeap → Prop) (t : AF) (h : AHeap) : Prop := ∃ k h' t', SubH k h h' ∧ TurnF k h h' t t' ∧ K t' h'
def finA (R : AV → AHeap → Prop) (r : AV) (h : AHeap) : Prop := ∃ k h' r', SubH k h h' ∧ (r' = r ∨ r' = frzF k h h' r) ∧ R r' h'

theorem SubH.refl (k : Nat) (h : AHeap) : SubH k h h := fun _ => .inr (.inl rfl)
theorem SubH.empty (k : Nat) (h : AHeap) : SubH k h AHeap.empty := fun _ => .inl rfl
theorem SubH.del (k : Nat) (h : AHeap) (b : Nat) : SubH k h (h.del b) := fun i => by
  by_cases e : i = b
  · subst e; exact .inl AHeap.del_same
  · exact .inr (.inl (AHeap.del_ne e))
theorem turnA_self {K : AF → AHeap → Prop} {t : AF} {h : AHeap} (k : K t h) : turnA K t h := ⟨0, h, t, .refl _ _, fun _ => .inl rfl, k⟩
theorem finA_self {R : AV → AHeap → Prop} {r : AV} {h : AHeap} (k : R r h) : finA R r h := ⟨0, h, r, .refl _ _, .inl rfl, k⟩
/-- All is given up. -/
theorem finA_all {R : AV → AHeap → Prop} {r : AV} {h : AHeap} (k : Nat) (q : R (frzF k h AHeap.empty r) AHeap.empty) : finA R r h := ⟨k, _, _, .empty _ _, .inr rfl, q⟩
theorem finA_drop {R : AV → AHeap → Prop} {r : AV} {h : AHeap} (q : R r AHeap.empty) : finA R r h := ⟨0, _, _, .empty _ _, .inl rfl, q⟩

theorem frz_one {h h' : AHeap} : ∀ (k : Nat) (a : AV), (frzF k h h' a).one = a.one
  | 0, _ => rfl
  | k + 1, a => by
    cases a <;> simp only [frzF] <;> first | rfl | skip
    · split
      · split <;> rfl
      · rfl
    · split <;> rfl

section
variable {P : Program} {w : World} {h h' hf : AHeap} {t t' : AF} {a : Act} {N B k : Nat}

theorem SubH.none {k : Nat} (s : SubH k h h') {b : Nat} (e : h b = none) : h' b = none := by
  rcases s b with q | q | ⟨cs, q, _⟩
  · exact q
  · rw [q]; exact e
  · rw [e] at q; cases q

theorem SubH.ext (s : SubH k h h') (_ : Disj h hf) : Ext w (h.un hf) w (h'.un hf) :=
  ⟨Nat.le_refl _, fun b _ hb => by
    obtain ⟨e1, e2⟩ := AHeap.un_eq_none.1 hb
    exact ⟨AHeap.un_eq_none.2 ⟨s.none e1, e2⟩, rfl⟩, fun b cs e fr hc => ⟨cs, fr, hc, rfl⟩, rfl, rfl, rfl⟩

theorem SubH.disj (s : SubH k h h') (D : Disj h hf) : Disj h' hf := fun b => by
  rcases D b with e | e
  · exact .inl (s.none e)
  · exact .inr e

theorem Cells.conv {g g' : AHeap} {b off : Nat} {cells : List AV} (c : Cells w g b off cells) (f : AV → AV) (ho : ∀ a, (f a).one = a.one) (hr : ∀ v a, Rep w g v a → Rep w g' v (f a)) : Cells w g' b off (cells.map f) := by
  obtain ⟨h1, vs, h2, h3⟩ := c
  refine ⟨fun x hx => ?_, vs, fun i hi => h2 i (by simpa using hi), fun i hi => ?_⟩
  · obtain ⟨y, hy, rfl⟩ := List.mem_map.1 hx
    rw [ho]; exact h1 y hy
  · simp only [List.getElem_map]
    exact hr _ _ (h3 i (by simpa using hi))

theorem RepL.conv {g g' : AHeap} {vs : List Value} {as : List AV} (r : RepL w g vs as) (f : AV → AV) (hr : ∀ v a, Rep w g v a → Rep w g' v (f a)) : RepL w g' vs (as.map f) :=
  ⟨by simp [r.1], fun i hi hj => by simp only [List.getElem_map]; exact hr _ _ (r.2 i hi _)⟩

theorem frz_sound (R : Rel w (h.un hf)) (D : Disj h hf) (s : ∀ b, h b = none → h' b = none) : ∀ (j : Nat) (v : Value) (x : AV), Rep w (h.un hf) v x → Rep w (h'.un hf) v (frzF j h h' x)
  | 0, v, x, r => r.ext ⟨Nat.le_refl _, fun b _ hb => by
      obtain ⟨e1, e2⟩ := AHeap.un_eq_none.1 hb
      exact ⟨AHeap.un_eq_none.2 ⟨s b e1, e2⟩, rfl⟩, fun b cs e fr hc => ⟨cs, fr, hc, rfl⟩, rfl, rfl, rfl⟩
  | j + 1, v, x, r => by
    have ih := frz_sound R D s j
    have x0 : Ext w (h.un hf) w (h'.un hf) := ⟨Nat.le_refl _, fun b _ hb => by
      obtain ⟨e1, e2⟩ := AHeap.un_eq_none.1 hb
      exact ⟨AHeap.un_eq_none.2 ⟨s b e1, e2⟩, rfl⟩, fun b cs e fr hc => ⟨cs, fr, hc, rfl⟩, rfl, rfl, rfl⟩
    cases x <;> simp only [frzF] <;> first | exact r.ext x0 | skip
    case sl n cells =>
      by_cases hne : cells = []
      · subst hne; exact r.ext x0
      · obtain ⟨b, off, c, rfl, hn, hb, hlt, hc⟩ := cells_of_sl r hne
        obtain ⟨e1, e2⟩ := AHeap.un_eq_none.1 hb
        exact rep_sl hn (AHeap.un_eq_none.2 ⟨s b e1, e2⟩) hlt (hc.conv _ (frz_one j) ih)
    case fptr cells =>
      obtain ⟨b, off, rfl, hb, hlt, hc⟩ := cells_of_fptr r
      obtain ⟨e1, e2⟩ := AHeap.un_eq_none.1 hb
      exact rep_fptr (AHeap.un_eq_none.2 ⟨s b e1, e2⟩) hlt (hc.conv _ (frz_one j) ih)
    case osl b off n es =>
      split
      · next cs hb hb' =>
        split
        · next hle =>
          obtain ⟨c, rfl, hn, _⟩ := r.inv_osl
          have hfb : hf b = none := D.none_right hb
          have hcl := ((Rel.cells R (AHeap.un_some hb)).drop off).take (n * es)
          rw [Nat.zero_add] at hcl
          exact rep_sl hn (AHeap.un_eq_none.2 ⟨hb', hfb⟩) (R.lt (AHeap.un_some hb)) (hcl.conv _ (frz_one j) ih)
        · exact r.ext x0
      · exact r.ext x0
    case ptr b off =>
      split
      · next cs hb hb' =>
        have hv := r.inv_ptr
        subst hv
        have hfb : hf b = none := D.none_right hb
        have hcl := (Rel.cells R (AHeap.un_some hb)).drop off
        rw [Nat.zero_add] at hcl
        exact rep_fptr (AHeap.un_eq_none.2 ⟨hb', hfb⟩) (R.lt (AHeap.un_some hb)) (hcl.conv _ (frz_one j) ih)
      · exact r.ext x0
    case agg cells =>
      obtain ⟨vs, rfl, h1, h2, h3⟩ := r.inv_agg
      have r3 := h3.conv _ ih
      exact .agg (by simp [h1]) (fun y hy => by obtain ⟨z, hz, rfl⟩ := List.mem_map.1 hy; rw [frz_one]; exact h2 z hz) r3.2
    case tup cells =>
      obtain ⟨vs, rfl, h3⟩ := r.inv_tup
      have r3 := h3.conv _ ih
      exact .tup r3.1 r3.2
    case fn f fa ca =>
      obtain ⟨fi, cp, rfl, h1, h2⟩ := r.inv_fn
      have r1 := h1.conv _ ih
      have r2 := h2.conv _ ih
      exact .fn r1.1 r2.1 r1.2 r2.2
    case iface ty y =>
      obtain ⟨z, rfl, hz⟩ := r.inv_iface
      exact .iface (ih _ _ hz)

theorem SubH.rel (s : SubH k h h') (R : Rel w (h.un hf)) (D : Disj h hf) : Rel w (h'.un hf) := by
  have x0 : Ext w (h.un hf) w (h'.un hf) := s.ext D
  intro b c e
  rw [AHeap.un_at] at e
  cases hb : h' b with
  | none =>
    rw [hb] at e
    have : (h.un hf) b = some c := by rw [D.un_comm]; exact AHeap.un_some e
    exact (R b c this).ext x0 rfl
  | some c' =>
    rw [hb] at e
    have ec : c' = c := by simpa using e
    subst ec
    rcases s b with q | q | ⟨cs, q1, q2⟩
    · rw [hb] at q; cases q
    · exact (R b c' (AHeap.un_some (q.symm.trans hb))).ext x0 rfl
    · rw [hb] at q2; cases q2
      obtain ⟨vs, ty, h1, h2, h3, h4⟩ := R b _ (AHeap.un_some q1)
      refine ⟨vs, ty, h1, by simpa using h2, fun y hy => by obtain ⟨z, hz, rfl⟩ := List.mem_map.1 hy; rw [frz_one]; exact h3 z hz, fun i hi hj => ?_⟩
      simp only [List.getElem_map]
      exact frz_sound R D (fun b => s.none) k _ _ (h4 i (by simpa using hi) hj)

theorem SubH.stp (s : SubH k h h') (D : Disj h hf) : Stp w h hf w h' := ⟨s.ext D, fun _ _ => rfl⟩

theorem Good.turn (G : Good w h hf a t N B) (s : SubH k h h') (ht : TurnF k h h' t t') : Good w h' hf a t' N B :=
  ⟨s.disj G.disj, s.rel G.rel G.disj, fun i => by
    rcases ht i with e | e
    · rw [e]; exact (G.frame i).ext (s.ext G.disj)
    · rw [e]; exact frz_sound G.rel G.disj (fun b => s.none) k _ _ (G.frame i), G.size, G.defers.ext (s.ext G.disj), G.base⟩

theorem To.turn {K : AF → AHeap → Prop} {a' : Act} {w' : World} (T : To w h hf N B (turnA K) a' w') : To w h hf N B K a' w' := by
  obtain ⟨t', h', ⟨k, h'', t'', s, ht, q⟩, G, x⟩ := T
  exact ⟨t'', h'', q, G.turn s ht, x.trans (s.stp G.disj)⟩
end
end Go.AH
