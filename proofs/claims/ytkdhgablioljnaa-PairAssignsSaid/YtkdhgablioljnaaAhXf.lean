/-
  Calls told at a heap that they leave as it is: what they hand back is read-only.
-/
import Derived.Test.YtkdhgablioljnaaAhXm
set_option linter.unusedSimpArgs false
set_option linter.unusedVariables false
set_option linter.unusedSectionVars false
namespace Go.AH
open Go

section
variable {ρ ρ' : Rn}
mutual
theorem ren_ext (hb : ρ.b = ρ'.b) (hs : ρ.s = ρ'.s) : ∀ v : AV, ren ρ v = ren ρ' v
  | .sl m cs => by simp only [ren, renL_ext hb hs cs]
  | .osl b off m es => by simp only [ren, hb, hs]
  | .ptr b off => by simp only [ren, hb, hs]
  | .fptr cs => by simp only [ren, renL_ext hb hs cs]
  | .map b => by simp only [ren, hb]
  | .fn f fa ca => by
    simp only [ren, renL_ext hb hs fa, renL_ext hb hs ca]
    cases f <;> first | rfl | simp only [hb]
  | .iface t v => by simp only [ren, ren_ext hb hs v]
  | .agg cs => by simp only [ren, renL_ext hb hs cs]
  | .tup cs => by simp only [ren, renL_ext hb hs cs]
  | .undef => rfl
  | .bool b => rfl
  | .int k n => rfl
  | .str s => rfl
  | .nilsl => rfl
  | .nilptr => rfl
  | .nilmap => rfl
  | .nilfn => rfl
  | .nilif => rfl
theorem renL_ext (hb : ρ.b = ρ'.b) (hs : ρ.s = ρ'.s) : ∀ l : List AV, renL ρ l = renL ρ' l
  | [] => rfl
  | a :: as => by simp only [renL, ren_ext hb hs a, renL_ext hb hs as]
end
theorem ren_fun (hb : ρ.b = ρ'.b) (hs : ρ.s = ρ'.s) : ren ρ = ren ρ' := funext (ren_ext hb hs)

theorem CR.ext (hb : ρ.b = ρ'.b) (hs : ρ.p = ρ'.p) (hr : ρ.r = ρ'.r) {i : Nat} {c : XC} {C : Option Chunk} (h : CR ρ i c C) : CR ρ' i c C := by
  have e := ren_fun hb (show ρ.s = ρ'.s from by funext i; unfold Rn.s; rw [hs])
  have ef : ∀ t : AF, renF ρ t = renF ρ' t := fun t => by unfold renF; rw [e]
  cases c with
  | cells m t => show C = _; rw [show C = _ from h, hs, e]
  | map sh es => exact ⟨by rw [← hs]; exact h.1, by rw [← e]; exact h.2⟩
  | sit s p => exact ⟨by rw [← hs]; exact h.1, h.2⟩
  | loop ps as b N t j => exact ⟨by rw [← hs]; exact h.1, by rw [← hr]; exact h.2.1, by rw [← hr, ← ef]; exact h.2.2.1, by rw [← hr]; exact h.2.2.2⟩
  | gone => trivial

/-- What a name tells of a block is all of it. -/
theorem CR.det {i : Nat} {c : XC} {C C' : Option Chunk} (hc : c ≠ .gone) (h : CR ρ i c C) (h' : CR ρ i c C') : C = C' := by
  cases c with
  | cells m t => rw [show C = _ from h, show C' = _ from h']
  | map sh es => rw [h.2, h'.2]
  | sit s p => rw [h.2, h'.2]
  | loop ps as b N t j => rw [h.2.2.2, h'.2.2.2]
  | gone => exact absurd rfl hc

/-- From here on the names that are there are kept. -/
noncomputable def Rn.keep (ρ : Rn) (h : XH) : Rn := { ρ with lo := h.n, g := h.get }
theorem HRep.keep {h : XH} {H : AHeap} (R : HRep ρ h H) : HRep (ρ.keep h) { h with lo := h.n } H :=
  ⟨R.wf, R.sm, R.ok, fun i => CR.ext (ρ := ρ) (ρ' := ρ.keep h) rfl rfl rfl (R.cr i), R.inj, R.ex, R.s0, rfl, Nat.le_refl _, fun _ _ => rfl⟩
end

section
variable {P : Program} {w : World} {h1 h : XH} {H1 H hf : AHeap} {ρ ρ' : Rn}

theorem Cells.conv2 {g g' : AHeap} {b off : Nat} {cells : List AV} {f f' : AV → AV} (c : Cells w g b off (cells.map f)) (ho : ∀ a, (f' a).one = (f a).one) (hr : ∀ v a, Rep w g v (f a) → Rep w g' v (f' a)) : Cells w g' b off (cells.map f') := by
  obtain ⟨q1, vs, q2, q3⟩ := c
  refine ⟨fun x hx => ?_, vs, fun i hi => q2 i (by simpa using hi), fun i hi => ?_⟩
  · obtain ⟨y, hy, rfl⟩ := List.mem_map.1 hx
    rw [ho]; exact q1 _ (List.mem_map_of_mem hy)
  · simp only [List.getElem_map]
    have := q3 i (by simpa using hi)
    simp only [List.getElem_map] at this
    exact hr _ _ this
theorem RepL.conv2 {g g' : AHeap} {vs : List Value} {as : List AV} {f f' : AV → AV} (r : RepL w g vs (as.map f)) (hr : ∀ v a, Rep w g v (f a) → Rep w g' v (f' a)) : RepL w g' vs (as.map f') :=
  ⟨by have := r.1; simpa using this, fun i hi hj => by
    simp only [List.getElem_map]
    have := r.2 i hi (by simpa using hj)
    simp only [List.getElem_map] at this
    exact hr _ _ this⟩

theorem XH.a_cells {h : XH} {b : Nat} {cs : List AV} (e : h.a b = some (.cells cs)) : ∃ n t, h.get b = .cells n t := by
  unfold XH.a at e
  cases hg : h.get b <;> rw [hg] at e <;> simp at e
  exact ⟨_, _, rfl⟩

theorem frz_ren (R : Rel w (H1.un hf)) (D : Disj H1 hf) (s : SubH 0 H1 H) (R1 : HRep ρ h1 H1) (hd : ∀ b cs, h1.a b = some (.cells cs) → h.a b = none → H (ρ.b b) = none) :
    ∀ (j : Nat) (v : Value) (x : AV), Rep w (H1.un hf) v (ren ρ x) → Rep w (H.un hf) v (ren ρ (frzF j h1.a h.a x))
  | 0, v, x, r => r.ext (s.ext D)
  | j + 1, v, x, r => by
    have ih := frz_ren R D s R1 hd j
    have x0 := s.ext (w := w) D
    have ho : ∀ a, (ren ρ (frzF j h1.a h.a a)).one = (ren ρ a).one := fun a => by rw [ren_one, ren_one, frz_one]
    cases x <;> simp only [frzF] <;> first | exact r.ext x0 | skip
    case sl n cells =>
      simp only [ren, renL_eq, List.map_map] at r ⊢
      by_cases hne : cells = []
      · subst hne; exact r.ext x0
      · obtain ⟨b, off, c, rfl, hn, hb, hlt, hc⟩ := cells_of_sl r (by simpa using hne)
        obtain ⟨e1, e2⟩ := AHeap.un_eq_none.1 hb
        exact rep_sl hn (AHeap.un_eq_none.2 ⟨s.none e1, e2⟩) hlt (hc.conv2 ho ih)
    case fptr cells =>
      simp only [ren, renL_eq, List.map_map] at r ⊢
      obtain ⟨b, off, rfl, hb, hlt, hc⟩ := cells_of_fptr r
      obtain ⟨e1, e2⟩ := AHeap.un_eq_none.1 hb
      exact rep_fptr (AHeap.un_eq_none.2 ⟨s.none e1, e2⟩) hlt (hc.conv2 ho ih)
    case osl b off n es =>
      split
      · next cs hb hb' =>
        split
        · next hle =>
          obtain ⟨pre, hp, hH⟩ := R1.hr.cells b cs hb
          simp only [ren] at r
          have hfb : hf (ρ.b b) = none := D.none_right hH
          obtain ⟨c, o2, rfl, hn, hcl⟩ := r.osl_cells R (AHeap.un_some hH)
          rw [drop_pre hp, ← List.map_drop, ← List.map_take] at hcl
          simp only [ren, renL_eq, List.map_map]
          exact rep_sl hn (AHeap.un_eq_none.2 ⟨hd b cs hb hb', hfb⟩) (R.lt (AHeap.un_some hH)) (hcl.conv2 ho ih)
        · exact r.ext x0
      · exact r.ext x0
    case ptr b off =>
      split
      · next cs hb hb' =>
        obtain ⟨pre, hp, hH⟩ := R1.hr.cells b cs hb
        simp only [ren] at r
        have hv := r.inv_ptr
        subst hv
        have hfb : hf (ρ.b b) = none := D.none_right hH
        have hcl := (Rel.cells R (AHeap.un_some hH)).drop (off + ρ.s b)
        rw [Nat.zero_add, drop_pre hp, ← List.map_drop] at hcl
        simp only [ren, renL_eq, List.map_map]
        exact rep_fptr (AHeap.un_eq_none.2 ⟨hd b cs hb hb', hfb⟩) (R.lt (AHeap.un_some hH)) (hcl.conv2 ho ih)
      · exact r.ext x0
    case agg cells =>
      simp only [ren, renL_eq, List.map_map] at r ⊢
      obtain ⟨vs, rfl, q1, q2, q3⟩ := r.inv_agg
      have r3 := RepL.conv2 q3 ih
      exact .agg (by simpa using q1) (fun y hy => by
        obtain ⟨z, hz, rfl⟩ := List.mem_map.1 hy
        simp only [Function.comp_apply]
        rw [ho]; exact q2 _ (List.mem_map_of_mem hz)) r3.2
    case tup cells =>
      simp only [ren, renL_eq, List.map_map] at r ⊢
      obtain ⟨vs, rfl, q3⟩ := r.inv_tup
      have r3 := RepL.conv2 q3 ih
      exact .tup r3.1 r3.2
    case fn f fa ca =>
      simp only [ren, renL_eq, List.map_map] at r ⊢
      obtain ⟨fi, cp, rfl, q1, q2⟩ := r.inv_fn
      have r1 := RepL.conv2 q1 ih
      have r2 := RepL.conv2 q2 ih
      exact .fn r1.1 r2.1 r1.2 r2.2
    case iface ty y =>
      simp only [ren] at r ⊢
      obtain ⟨z, rfl, hz⟩ := r.inv_iface
      exact .iface (ih _ _ hz)

/-- **A call that only reads**, told at the heap where it is made: its names are kept. -/
theorem flag_sound {call : XCall} (C : CallOk P call) (R : HRep ρ h H) {f : FuncId} {first caps args : List AV} {r1 : AV} (hb1 : AV.bdL h.n first = true) (hb2 : AV.bdL h.n caps = true) (hb3 : AV.bdL h.n args = true)
    (e : call (.fn (.func f) first caps) args { h with lo := h.n } (fun r h' => some (r, h')) = some (r1, h1)) (hb : (frzF 8 h1.a h.a r1).bd h.n = true) :
    ACallV P (ren ρ (.fn (.func f) first caps)) (args.map (ren ρ)) H (fun r' H' => r' = ren ρ (frzF 8 h1.a h.a r1) ∧ H' = H) := by
  have c := C (ρ.keep h) _ H _ _ _ _ e R.keep
  have er : ren (ρ.keep h) = ren ρ := ren_fun rfl rfl
  rw [er] at c
  have ef : ren ρ (.fn (.func f) first caps) = .fn (.func f) (first.map (ren ρ)) (caps.map (ren ρ)) := by simp only [ren, renL_eq]
  rw [ef] at c ⊢
  change ACalls P f _ H _ at c
  show ACalls P f _ H _
  refine ⟨c.1, fun hf w vs D Rl rs => CallsIn.mono' (c.2 hf w vs D Rl rs) ?_⟩
  rintro en w' ⟨v, r', H1, rfl, ⟨ρ', r, h', ag, hn, R', rfl, eK⟩, D1, Rw, rv, st⟩
  cases eK
  have kept : ∀ i, i < h.n → h1.get i = h.get i := fun i hi => by
    have q := R'.gg i (by rw [← ag.lo]; exact hi)
    rw [q, ← ag.g]; rfl
  have sub : ∀ b, H b ≠ none → H1 b = H b := by
    intro b hb
    obtain ⟨i, hi, rfl⟩ := R.ex b hb
    have hlt := XH.get_lt hi
    have c1 := (R.keep.cr i).agr ag hlt (R.ok i)
    have c2 := R'.cr i
    rw [kept i hlt, ← (ag i hlt).1] at c2
    exact CR.det hi c2 c1
  have sb : SubH 0 H1 H := fun b => by
    by_cases hb : H b = none
    · exact .inl hb
    · exact .inr (.inl (sub b hb).symm)
  have key := frz_ren (h := h) Rw D1 sb R' (fun b cs q1 q2 => by
    obtain ⟨n, t, hg⟩ := XH.a_cells q1
    by_cases hlt : b < h.n
    · rw [kept b hlt] at hg
      unfold XH.a at q2
      rw [hg] at q2
      cases q2
    · by_cases hn : H (ρ'.b b) = none
      · exact hn
      · obtain ⟨i, hi, hib⟩ := R.ex _ hn
        have hil := XH.get_lt hi
        have : i = b := R'.inj i b (by rw [kept i hil]; exact hi) (by rw [hg]; simp) (by rw [← (ag i hil).1]; exact hib)
        omega) 8 v r1 rv
  rw [← ren_agr ag _ hb, er] at key
  exact ⟨v, _, H, rfl, ⟨rfl, rfl⟩, sb.disj D1, sb.rel Rw D1, key, st.trans (sb.stp D1)⟩
end
end Go.AH
