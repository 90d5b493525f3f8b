/-
  Texts: WdT1 WdT2 WdT3.
-/
import Derived.Test.YtobhipohnjmnhaaV10
set_option linter.unusedSimpArgs false
set_option linter.unusedVariables false
set_option linter.unusedSectionVars false
section
/-
  Plain laws: the languages of Reverse, Follow, Repeat.
-/
namespace Go.Proofs
open Go Go.AH
set_option maxRecDepth 10000
set_option maxHeartbeats 4000000

section
variable {α : Type}
theorem runN_snoc (ν : α → Nat → α) (x : α) (w : List Nat) (i : Nat) : runN ν x (w ++ [i]) = ν (runN ν x w) i := by simp [runN]
theorem runN_app (ν : α → Nat → α) (x : α) (u v : List Nat) : runN ν x (u ++ v) = runN ν (runN ν x u) v := by simp [runN]
end
theorem Ok.rev {k : Nat} {w : List Nat} (h : Ok k w) : Ok k w.reverse := fun i hi => h i (by simpa using hi)
theorem Ok.left {k : Nat} {u v : List Nat} (h : Ok k (u ++ v)) : Ok k u := fun i hi => h i (by simp [hi])
theorem Ok.right {k : Nat} {u v : List Nat} (h : Ok k (u ++ v)) : Ok k v := fun i hi => h i (by simp [hi])
theorem snoc_ind {P : List Nat → Prop} (h0 : P []) (h1 : ∀ w i, P w → P (w ++ [i])) : ∀ w, P w := by
  have key : ∀ v : List Nat, P v.reverse := by
    intro v
    induction v with
    | nil => exact h0
    | cons i v ih => rw [List.reverse_cons]; exact h1 _ _ ih
  intro w
  have := key w.reverse
  rwa [List.reverse_reverse] at this

/-! ### Reverse -/
theorem rev_bit {M : Dfa} (hM : M.ok) : ∀ (v : List Nat), Ok M.k v → ∀ s, s < M.next.length → (runN (revN M) (goodsF M) v.reverse).testBit s = gdF M (goW M s v) := by
  intro v
  induction v with
  | nil => intro _ s _; exact goodsF_bit M s
  | cons i v ih =>
    intro hv s hs
    have hi : i < M.k := hv i (by simp)
    rw [List.reverse_cons, runN_snoc]
    unfold revN
    rw [maskF_bit]
    simp only [hs, decide_true, Bool.true_and]
    exact ih (fun j hj => hv j (by simp [hj])) _ (nx_lt hM.wf hs hi)
theorem rev_bit' {M : Dfa} (hM : M.ok) {w : List Nat} (hw : Ok M.k w) {s : Nat} (hs : s < M.next.length) : (runN (revN M) (goodsF M) w).testBit s = gdF M (goW M s w.reverse) := by
  have := rev_bit hM w.reverse hw.rev s hs
  rwa [List.reverse_reverse] at this
theorem rev_lt {M : Dfa} (hM : M.ok) : ∀ (w : List Nat), runN (revN M) (goodsF M) w < 2 ^ M.next.length := by
  refine snoc_ind (goodsF_lt hM) fun w i _ => ?_
  rw [runN_snoc]; exact revN_lt M _ _
theorem rev_acc {M : Dfa} (hM : M.ok) {w : List Nat} (hw : Ok M.k w) : revG (runN (revN M) (goodsF M) w) = accW M w.reverse := rev_bit' hM hw hM.n1
def RevI (M : Dfa) (S : Nat) : Prop := ∃ w, Ok M.k w ∧ S = runN (revN M) (goodsF M) w
/-- Sets from which the same words are read are the same: every state of the least automaton can be reached. -/
theorem rev_apart {M : Dfa} (hM : M.ok) (hb : Bf M) {w w' : List Nat} (hw : Ok M.k w) (hw' : Ok M.k w') (h : ∀ v, Ok M.k v → accW M (v.reverse ++ w.reverse) = accW M (v.reverse ++ w'.reverse)) : runN (revN M) (goodsF M) w = runN (revN M) (goodsF M) w' := by
  refine Nat.eq_of_testBit_eq fun s => ?_
  by_cases hs : s < M.next.length
  · obtain ⟨u, hu, e⟩ := hb.word hs
    have := h u.reverse hu.rev
    rw [List.reverse_reverse] at this
    unfold accW at this
    rw [goW_app, goW_app, e] at this
    rw [rev_bit' hM hw hs, rev_bit' hM hw' hs]
    exact this
  · have h1 := rev_lt hM w; have h2 := rev_lt hM w'
    have h3 : 2 ^ M.next.length ≤ 2 ^ s := Nat.pow_le_pow_right (by omega) (by omega)
    rw [Nat.testBit_lt_two_pow (by omega), Nat.testBit_lt_two_pow (by omega)]
/-- An automaton of the words that are read backwards has no fewer states than there are sets. -/
theorem rev_cap {M N : Dfa} (hM : M.ok) (hb : Bf M) (hN : N.wf) (hk : N.k = M.k) (hl : ∀ w, Ok M.k w → accW N w = accW M w.reverse) {most : Nat} (hm : N.next.length ≤ most) : ∀ l : List Nat, l.Nodup → (∀ y ∈ l, RevI M y) → l.length ≤ most := by
  have hch : ∃ f : Nat → List Nat, ∀ S, RevI M S → Ok M.k (f S) ∧ S = runN (revN M) (goodsF M) (f S) := by
    classical
    refine ⟨fun S => if h : ∃ w, Ok M.k w ∧ S = runN (revN M) (goodsF M) w then Classical.choose h else [], fun S h => ?_⟩
    have h' : ∃ w, Ok M.k w ∧ S = runN (revN M) (goodsF M) w := h
    simp only [dif_pos h']
    exact Classical.choose_spec h'
  obtain ⟨f, hf⟩ := hch
  refine cap_of (fun S => goW N 0 (f S)) N.next.length most hm (fun S hS => goW_lt hN _ 0 (by have := hN.n1; omega) (by rw [hk]; exact (hf S hS).1)) fun S S' hS hS' e => ?_
  rw [(hf S hS).2, (hf S' hS').2]
  refine rev_apart hM hb (hf S hS).1 (hf S' hS').1 fun v hv => ?_
  have h1 := hl (f S ++ v) ((hf S hS).1.app hv); have h2 := hl (f S' ++ v) ((hf S' hS').1.app hv)
  rw [List.reverse_append] at h1 h2
  rw [← h1, ← h2]
  unfold accW
  rw [goW_app, goW_app]
  have e' : goW N 0 (f S) = goW N 0 (f S') := e
  rw [e']
theorem rev_inv {M : Dfa} (x i : Nat) (h : RevI M x) (hi : i < M.k) : RevI M (revN M x i) := by
  obtain ⟨w, hw, rfl⟩ := h
  exact ⟨w ++ [i], hw.app (Ok.one hi), (runN_snoc _ _ _ _).symm⟩
theorem rev_some {M N : Dfa} (hM : M.ok) (hb : Bf M) (hN : N.wf) (hk : N.k = M.k) (hl : ∀ w, Ok M.k w → accW N w = accW M w.reverse) (hn : N.next.length ≤ 65) :
    ∃ R, revM M = some R ∧ R.wf ∧ R.k = M.k ∧ R.next.length ≤ 65 ∧ ∀ w, Ok M.k w → accW R w = accW M w.reverse := by
  obtain ⟨st, e, o⟩ := mk_some (revN M) 65 M.k hM.k1 hM.k4 (by omega) (by omega) (goodsF M) (RevI M) (rev_cap hM hb hN hk hl hn) rev_inv ⟨[], Ok.nil, rfl⟩
  refine ⟨_, by unfold revM mkM; rw [e]; rfl, o.wf revG, rfl, by have := o.len; have := o.le; simp only; omega, fun w hw => ?_⟩
  rw [o.acc revG w hw, rev_acc hM hw]
theorem rev_none {M N : Dfa} (hM : M.ok) (hb : Bf M) (hN : N.wf) (hk : N.k = M.k) (hl : ∀ w, Ok M.k w → accW N w = accW M w.reverse) (e : revM M = none) : 65 < N.next.length := by
  refine Classical.byContradiction fun h => ?_
  obtain ⟨R, e2, _⟩ := rev_some hM hb hN hk hl (by omega)
  rw [e] at e2; cases e2
/-- Few states: no more sets than may be. -/
theorem rev_few {M : Dfa} (hM : M.ok) (h6 : M.next.length ≤ 6) : ∃ R, revM M = some R ∧ R.wf ∧ R.k = M.k ∧ R.next.length ≤ 2 ^ M.next.length ∧ ∀ w, Ok M.k w → accW R w = accW M w.reverse := by
  have h64 : 2 ^ M.next.length ≤ 2 ^ 6 := Nat.pow_le_pow_right (by omega) h6
  have hcap := cap_of (Inv := fun x => x < 2 ^ M.next.length) (fun x : Nat => x) (2 ^ M.next.length) 65 (by omega) (fun x h => h) (fun x y _ _ e => e)
  obtain ⟨st, e, o⟩ := mk_some (revN M) 65 M.k hM.k1 hM.k4 (by omega) (by omega) (goodsF M) (fun x => x < 2 ^ M.next.length) hcap (fun x i _ _ => revN_lt M x i) (goodsF_lt hM)
  have hl := cap_of (Inv := fun x => x < 2 ^ M.next.length) (fun x : Nat => x) (2 ^ M.next.length) (2 ^ M.next.length) (Nat.le_refl _) (fun x h => h) (fun x y _ _ e => e) st.1 o.nodup
    ((rIter_inv (revN M) (65 : Nat) (fun x => x < 2 ^ M.next.length) M.k (fun x i _ _ => revN_lt M x i) (goodsF M) (goodsF_lt hM) _ _ e).2)
  refine ⟨_, by unfold revM mkM; rw [e]; rfl, o.wf revG, rfl, by have := o.len; simp only; omega, fun w hw => ?_⟩
  rw [o.acc revG w hw, rev_acc hM hw]

/-! ### Follow -/
theorem eachF_nx {M : Dfa} (hM : M.ok) {b i s : Nat} (hb : b < 2 ^ M.next.length) : (loopY M b i).testBit s = true ↔ ∃ t, t < M.next.length ∧ b.testBit t = true ∧ nx M t i = s := by
  unfold loopY
  rw [eachF_bit, List.any_eq_true]
  constructor
  · rintro ⟨t, _, h⟩
    simp only [Bool.and_eq_true] at h
    refine ⟨t, bit_lt hb h.1, h.1, ?_⟩
    have := h.2
    rw [Nat.testBit_two_pow] at this
    simpa using this
  · rintro ⟨t, ht, h1, h2⟩
    have := hM.n64
    refine ⟨t, by simp; omega, ?_⟩
    simp only [Bool.and_eq_true]
    refine ⟨h1, ?_⟩
    rw [Nat.testBit_two_pow]
    simpa using h2
theorem and_ne {a : Nat} {M : Dfa} : ¬ (a &&& goodsF M = 0) ↔ ∃ s, a.testBit s = true ∧ gdF M s = true := by
  constructor
  · intro h
    refine Classical.byContradiction fun hn => h (Nat.eq_of_testBit_eq fun s => ?_)
    rw [Nat.testBit_and, goodsF_bit, Nat.zero_testBit]
    cases h1 : a.testBit s with
    | false => rfl
    | true =>
      cases h2 : M.good.getD s false with
      | false => rfl
      | true => exact absurd ⟨s, h1, h2⟩ hn
  · rintro ⟨s, h1, h2⟩ h
    have := congrArg (·.testBit s) h
    simp only [Nat.testBit_and, goodsF_bit, Nat.zero_testBit, h1] at this
    unfold gdF at h2
    rw [h2] at this; cases this
def Cat (L K : List Nat → Prop) (w : List Nat) : Prop := ∃ u v, w = u ++ v ∧ L u ∧ K v
theorem entN_a (A : Dfa) (x : Tw) : (entN A x).a = x.a := by unfold entN; split <;> rfl
theorem entN_bit (A : Dfa) (x : Tw) (s : Nat) : (entN A x).b.testBit s = true ↔ x.b.testBit s = true ∨ s = 0 ∧ gdF A x.a = true := by
  unfold entN
  have h1 : (1 : Nat) = 2 ^ 0 := rfl
  split
  · next h =>
    have h' : gdF A x.a = true := h
    rw [h1, Nat.testBit_or, Nat.testBit_two_pow]
    simp [h']
    constructor <;> rintro (q | q) <;> simp [q]
  · next h =>
    have h' : ¬ gdF A x.a = true := h
    simp [h']
/-- Where a word leads: a state, and those where its ends lead that stand behind words of the one language. -/
theorem fol_run {A B : Dfa} (hA : A.ok) (hB : B.ok) (hk : A.k = B.k) : ∀ w, Ok A.k w → (runN (folN A B) (entN A ⟨0, 0⟩) w).a = goW A 0 w ∧ FolI A B (runN (folN A B) (entN A ⟨0, 0⟩) w) ∧
    ∀ s, (runN (folN A B) (entN A ⟨0, 0⟩) w).b.testBit s = true ↔ ∃ u v, w = u ++ v ∧ accW A u = true ∧ goW B 0 v = s := by
  refine snoc_ind ?_ ?_
  · intro _
    refine ⟨entN_a _ _, entN_inv hB ⟨hA.n1, Nat.two_pow_pos _⟩, fun s => ?_⟩
    show (entN A ⟨0, 0⟩).b.testBit s = true ↔ _
    rw [entN_bit]
    simp only [Nat.zero_testBit, Bool.false_eq_true, false_or]
    constructor
    · rintro ⟨rfl, h⟩; exact ⟨[], [], rfl, h, rfl⟩
    · rintro ⟨u, v, e, h1, h2⟩
      have h := List.append_eq_nil_iff.1 e.symm
      rw [h.1] at h1; rw [h.2] at h2
      exact ⟨h2.symm, h1⟩
  · intro w i ih hw
    obtain ⟨i1, i2, i3⟩ := ih hw.left
    have hi : i < A.k := hw i (by simp)
    rw [runN_snoc]
    refine ⟨?_, folN_inv hA hB hk i2 hi, fun s => ?_⟩
    · show (entN A _).a = _
      rw [entN_a, goW_snoc, i1]
    · show (entN A _).b.testBit s = true ↔ _
      rw [entN_bit, eachF_nx hB i2.2]
      constructor
      · rintro (⟨t, ht, h1, h2⟩ | ⟨rfl, h⟩)
        · obtain ⟨u, v, rfl, h3, h4⟩ := (i3 t).1 h1
          exact ⟨u, v ++ [i], by simp, h3, by rw [goW_snoc, h4, h2]⟩
        · refine ⟨w ++ [i], [], by simp, ?_, rfl⟩
          unfold accW
          rw [goW_snoc, ← i1]; exact h
      · rintro ⟨u, v, e, h1, h2⟩
        rcases List.eq_nil_or_concat v with rfl | ⟨v', j, rfl⟩
        · rw [List.append_nil] at e
          subst e
          refine .inr ⟨h2.symm, ?_⟩
          unfold accW at h1
          rw [goW_snoc, ← i1] at h1
          exact h1
        · rw [List.concat_eq_append, ← List.append_assoc] at e
          obtain ⟨e1, e2⟩ := List.append_inj' e rfl
          simp only [List.cons.injEq, and_true] at e2
          subst e2; subst e1
          rw [List.concat_eq_append, goW_snoc] at h2
          have hlt : goW B 0 v' < B.next.length := goW_lt hB.wf _ 0 hB.n1 fun j hj => by rw [← hk]; exact hw j (by simp [hj])
          exact .inl ⟨goW B 0 v', hlt, (i3 _).2 ⟨u, v', rfl, h1, rfl⟩, h2⟩
theorem fol_acc {A B : Dfa} (hA : A.ok) (hB : B.ok) (hk : A.k = B.k) {w : List Nat} (hw : Ok A.k w) : folG B (runN (folN A B) (entN A ⟨0, 0⟩) w) = true ↔ Cat (fun u => accW A u = true) (fun v => accW B v = true) w := by
  unfold folG
  rw [decide_eq_true_iff, and_ne]
  obtain ⟨_, _, h⟩ := fol_run hA hB hk w hw
  constructor
  · rintro ⟨s, h1, h2⟩
    obtain ⟨u, v, e, h3, h4⟩ := (h s).1 h1
    refine ⟨u, v, e, h3, ?_⟩
    show accW B v = true
    unfold accW
    rw [h4]; exact h2
  · rintro ⟨u, v, e, h3, h4⟩
    exact ⟨goW B 0 v, (h _).2 ⟨u, v, e, h3, rfl⟩, h4⟩

/-! ### Repeat -/
inductive Star (L : List Nat → Prop) : List Nat → Prop
  | nil : Star L []
  | snoc (u v : List Nat) (h1 : Star L u) (h2 : L v) : Star L (u ++ v)
theorem Star.last {L : List Nat → Prop} {w : List Nat} (h : Star L w) (hne : w ≠ []) : ∃ u v, v ≠ [] ∧ w = u ++ v ∧ Star L u ∧ L v := by
  induction h with
  | nil => exact absurd rfl hne
  | snoc u v h1 h2 ih =>
    by_cases hv : v = []
    · subst hv
      rw [List.append_nil] at hne ⊢
      exact ih hne
    · exact ⟨u, v, hv, rfl, h1, h2⟩
theorem Star.app {L : List Nat → Prop} {u v : List Nat} (h : Star L u) (h' : Star L v) : Star L (u ++ v) := by
  induction h' with
  | nil => simpa using h
  | snoc a b _ h2 ih => rw [← List.append_assoc]; exact .snoc _ _ ih h2
theorem Star.star {L : List Nat → Prop} {w : List Nat} (h : Star (Star L) w) : Star L w := by
  induction h with
  | nil => exact .nil
  | snoc u v _ h2 ih => exact ih.app h2
theorem Star.one {L : List Nat → Prop} {w : List Nat} (h : L w) : Star L w := by simpa using Star.snoc [] w .nil h
theorem Star.congr {L L' : List Nat → Prop} {k : Nat} (e : ∀ w, Ok k w → (L w ↔ L' w)) {w : List Nat} (hw : Ok k w) (h : Star L w) : Star L' w := by
  induction h with
  | nil => exact .nil
  | snoc u v _ h2 ih => exact .snoc _ _ (ih hw.left) ((e v hw.right).1 h2)
def LoopI (M : Dfa) (x : Lp) : Prop := x.b < 2 ^ M.next.length ∧ (x.a = false → x = ⟨false, 1⟩)
theorem loop_inv {M : Dfa} (hM : M.ok) (x : Lp) (i : Nat) (h : LoopI M x) (hi : i < M.k) : LoopI M (loopN M x i) := ⟨loopN_lt hM h.1 hi, fun h => by cases h⟩
theorem loop_start {M : Dfa} (hM : M.ok) : LoopI M ⟨false, 1⟩ := ⟨one_lt hM, fun _ => rfl⟩
theorem loop_cap {M : Dfa} {most : Nat} (h : 1 + 2 ^ M.next.length ≤ most) : ∀ l : List Lp, l.Nodup → (∀ y ∈ l, LoopI M y) → l.length ≤ most := by
  refine cap_of (fun x => if x.a then 1 + x.b else 0) (1 + 2 ^ M.next.length) most h (fun x hx => ?_) fun x y hx hy e => ?_
  · have := hx.1
    cases x.a
    · show 0 < _; omega
    · show 1 + x.b < _; omega
  · obtain ⟨xa, xb⟩ := x
    obtain ⟨ya, yb⟩ := y
    cases xa <;> cases ya
    · rw [hx.2 rfl, hy.2 rfl]
    · have e' : 0 = 1 + yb := e
      omega
    · have e' : 1 + xb = 0 := e
      omega
    · have e' : 1 + xb = 1 + yb := e
      have : xb = yb := by omega
      rw [this]
theorem loop_run {M : Dfa} (hM : M.ok) : ∀ w, Ok M.k w → (runN (loopN M) ⟨false, 1⟩ w).a = decide (w ≠ []) ∧ (runN (loopN M) ⟨false, 1⟩ w).b < 2 ^ M.next.length ∧
    ∀ s, (runN (loopN M) ⟨false, 1⟩ w).b.testBit s = true ↔ ∃ u v, w = u ++ v ∧ Star (fun x => accW M x = true) u ∧ goW M 0 v = s := by
  have h1 : (1 : Nat) = 2 ^ 0 := rfl
  refine snoc_ind ?_ ?_
  · intro _
    refine ⟨rfl, one_lt hM, fun s => ?_⟩
    show (1 : Nat).testBit s = true ↔ _
    rw [h1, Nat.testBit_two_pow, decide_eq_true_iff]
    constructor
    · rintro rfl; exact ⟨[], [], rfl, .nil, rfl⟩
    · rintro ⟨u, v, e, _, h2⟩
      rw [(List.append_eq_nil_iff.1 e.symm).2] at h2
      exact h2
  · intro w i ih hw
    obtain ⟨_, i2, i3⟩ := ih hw.left
    have hi : i < M.k := hw i (by simp)
    rw [runN_snoc]
    refine ⟨by simp [loopN], loopN_lt hM i2 hi, fun s => ?_⟩
    have hY : ∀ s, (loopY M (runN (loopN M) ⟨false, 1⟩ w).b i).testBit s = true ↔ ∃ u v, w = u ++ v ∧ Star (fun x => accW M x = true) u ∧ goW M 0 (v ++ [i]) = s := by
      intro s
      rw [eachF_nx hM i2]
      constructor
      · rintro ⟨t, _, q1, q2⟩
        obtain ⟨u, v, e, q3, q4⟩ := (i3 t).1 q1
        exact ⟨u, v, e, q3, by rw [goW_snoc, q4, q2]⟩
      · rintro ⟨u, v, e, q3, q4⟩
        rw [goW_snoc] at q4
        have hlt : goW M 0 v < M.next.length := goW_lt hM.wf _ 0 hM.n1 fun j hj => hw j (by rw [e]; simp [hj])
        exact ⟨goW M 0 v, hlt, (i3 _).2 ⟨u, v, e, q3, rfl⟩, q4⟩
    have hG : ¬ (loopY M (runN (loopN M) ⟨false, 1⟩ w).b i &&& goodsF M = 0) ↔ Star (fun x => accW M x = true) (w ++ [i]) := by
      rw [and_ne]
      constructor
      · rintro ⟨s, q1, q2⟩
        obtain ⟨u, v, e, q3, q4⟩ := (hY s).1 q1
        rw [e, List.append_assoc]
        refine .snoc _ _ q3 ?_
        unfold accW
        rw [q4]; exact q2
      · intro hst
        obtain ⟨u, v, hv, e, q3, q4⟩ := hst.last (by simp)
        rcases List.eq_nil_or_concat v with rfl | ⟨v', j, rfl⟩
        · exact absurd rfl hv
        · rw [List.concat_eq_append, ← List.append_assoc] at e
          obtain ⟨e1, e2⟩ := List.append_inj' e rfl
          simp only [List.cons.injEq, and_true] at e2
          subst e2
          rw [List.concat_eq_append] at q4
          exact ⟨goW M 0 (v' ++ [i]), (hY _).2 ⟨u, v', e1, q3, rfl⟩, q4⟩
    have hN : (loopN M (runN (loopN M) ⟨false, 1⟩ w) i).b.testBit s = true ↔ (loopY M (runN (loopN M) ⟨false, 1⟩ w).b i).testBit s = true ∨ s = 0 ∧ Star (fun x => accW M x = true) (w ++ [i]) := by
      unfold loopN
      simp only
      split
      · next h =>
        have : ¬ Star (fun x => accW M x = true) (w ++ [i]) := fun q => hG.2 q h
        simp [this]
      · next h =>
        have hq := hG.1 h
        rw [h1, Nat.testBit_or, Nat.testBit_two_pow, Bool.or_eq_true, decide_eq_true_iff]
        constructor
        · rintro (q | q)
          · exact .inl q
          · exact .inr ⟨q.symm, hq⟩
        · rintro (q | q)
          · exact .inl q
          · exact .inr q.1.symm
    rw [hN, hY]
    constructor
    · rintro (⟨u, v, e, q3, q4⟩ | ⟨rfl, q⟩)
      · exact ⟨u, v ++ [i], by rw [e, List.append_assoc], q3, q4⟩
      · exact ⟨w ++ [i], [], by simp, q, rfl⟩
    · rintro ⟨u, v, e, q3, q4⟩
      rcases List.eq_nil_or_concat v with rfl | ⟨v', j, rfl⟩
      · rw [List.append_nil] at e
        subst e
        exact .inr ⟨q4.symm, q3⟩
      · rw [List.concat_eq_append, ← List.append_assoc] at e
        obtain ⟨e1, e2⟩ := List.append_inj' e rfl
        simp only [List.cons.injEq, and_true] at e2
        subst e2
        rw [List.concat_eq_append] at q4
        exact .inl ⟨u, v', e1, q3, q4⟩
theorem loop_acc {M : Dfa} (hM : M.ok) {w : List Nat} (hw : Ok M.k w) : loopG M (runN (loopN M) ⟨false, 1⟩ w) = true ↔ Star (fun x => accW M x = true) w := by
  obtain ⟨h1, h2, h3⟩ := loop_run hM w hw
  unfold loopG
  rw [Bool.or_eq_true, decide_eq_true_iff, and_ne, h1]
  constructor
  · rintro (q | ⟨s, q1, q2⟩)
    · have : w = [] := by simpa using q
      subst this; exact .nil
    · obtain ⟨u, v, rfl, q3, q4⟩ := (h3 s).1 q1
      refine .snoc _ _ q3 ?_
      unfold accW
      rw [q4]; exact q2
  · intro q
    by_cases hw0 : w = []
    · exact .inl (by simp [hw0])
    · obtain ⟨u, v, _, e, q3, q4⟩ := q.last hw0
      exact .inr ⟨goW M 0 v, (h3 _).2 ⟨u, v, e, q3, rfl⟩, q4⟩
/-- Repeat of few states. -/
theorem rep_some {M : Dfa} (hM : M.ok) (h17 : M.next.length ≤ 17) : ∃ R, repM M = some R ∧ R.wf ∧ R.k = M.k ∧ R.next.length ≤ 1 + 2 ^ M.next.length ∧ ∀ w, Ok M.k w → (accW R w = true ↔ Star (fun x => accW M x = true) w) := by
  have hle : 2 ^ M.next.length ≤ 2 ^ 17 := Nat.pow_le_pow_right (by omega) h17
  obtain ⟨st, e, o⟩ := mk_some (loopN M) 400000 M.k hM.k1 hM.k4 (by omega) (by omega) ⟨false, 1⟩ (LoopI M) (loop_cap (by omega)) (fun x i h hi => loop_inv hM x i h hi) (loop_start hM)
  have hl := loop_cap (M := M) (Nat.le_refl _) st.1 o.nodup ((rIter_inv (loopN M) (400000 : Nat) (LoopI M) M.k (fun x i h hi => loop_inv hM x i h hi) ⟨false, 1⟩ (loop_start hM) _ _ e).2)
  refine ⟨_, by unfold repM mkM; rw [e]; rfl, o.wf (loopG M), rfl, by have := o.len; simp only; omega, fun w hw => ?_⟩
  rw [o.acc (loopG M) w hw, loop_acc hM hw]
end Go.Proofs

end

section
/-
  Plain law: how many sets are met where a reversed automaton follows another one.
-/
namespace Go.Proofs
open Go Go.AH
set_option maxRecDepth 10000
set_option maxHeartbeats 4000000

/-! ### Codes of subsets -/
def comp (A X : Nat) : Nat → Nat
  | 0 => 0
  | n + 1 => if A.testBit n then 2 * comp A X n + (X.testBit n).toNat else comp A X n
def popc (A : Nat) : Nat → Nat
  | 0 => 0
  | n + 1 => if A.testBit n then popc A n + 1 else popc A n
theorem comp_lt (A X : Nat) : ∀ n, comp A X n < 2 ^ popc A n
  | 0 => by simp [comp, popc]
  | n + 1 => by
    have ih := comp_lt A X n
    simp only [comp, popc]
    split
    · have : (X.testBit n).toNat ≤ 1 := Bool.toNat_le _
      rw [Nat.pow_succ]; omega
    · exact ih
theorem comp_inj {A X Y : Nat} : ∀ n, (∀ m, m < n → X.testBit m = true → A.testBit m = true) → (∀ m, m < n → Y.testBit m = true → A.testBit m = true) → comp A X n = comp A Y n → ∀ m, m < n → X.testBit m = Y.testBit m
  | 0, _, _, _, m, h => by omega
  | n + 1, hx, hy, e, m, h => by
    simp only [comp] at e
    split at e
    · next ha =>
      have h1 : (X.testBit n).toNat ≤ 1 := Bool.toNat_le _
      have h2 : (Y.testBit n).toNat ≤ 1 := Bool.toNat_le _
      have e1 : comp A X n = comp A Y n := by omega
      have e2 : (X.testBit n).toNat = (Y.testBit n).toNat := by omega
      by_cases hm : m = n
      · subst hm
        cases q1 : X.testBit m <;> cases q2 : Y.testBit m <;> simp [q1, q2] at e2 ⊢
      · exact comp_inj n (fun m h => hx m (by omega)) (fun m h => hy m (by omega)) e1 m (by omega)
    · next ha =>
      by_cases hm : m = n
      · subst hm
        cases q1 : X.testBit m with
        | true => exact absurd (hx m (by omega) q1) ha
        | false =>
          cases q2 : Y.testBit m with
          | true => exact absurd (hy m (by omega) q2) ha
          | false => rfl
      · exact comp_inj n (fun m h => hx m (by omega)) (fun m h => hy m (by omega)) e m (by omega)

/-! ### Maps that are one to one -/
def cnt (p : Nat → Bool) (n : Nat) : Nat := (List.range n).countP p
theorem cnt_perm (p : Nat → Bool) (f : Nat → Nat) (n : Nat) (hf : ∀ q, q < n → f q < n) (hi : ∀ a b, a < n → b < n → f a = f b → a = b) : cnt (fun q => p (f q)) n = cnt p n := by
  unfold cnt
  have hnd : ((List.range n).map f).Nodup := by
    rw [List.Nodup, List.pairwise_map]
    exact (List.nodup_range (n := n)).imp_of_mem fun {a b} ha hb hne e => hne (hi a b (by simpa using ha) (by simpa using hb) e)
  have hsub : ∀ x ∈ (List.range n).map f, x < n := fun x hx => by
    obtain ⟨q, hq, rfl⟩ := List.mem_map.1 hx
    exact hf q (by simpa using hq)
  have hperm : ((List.range n).map f).Perm (List.range n) := by
    rw [List.perm_ext_iff_of_nodup hnd List.nodup_range]
    intro a
    constructor
    · intro h; simpa using hsub a h
    · intro h
      refine Classical.byContradiction fun hn => ?_
      have : (a :: (List.range n).map f).Nodup := List.nodup_cons.2 ⟨hn, hnd⟩
      have := nodup_lt n _ this (fun x hx => by
        rcases List.mem_cons.1 hx with rfl | hx
        · simpa using h
        · exact hsub x hx)
      simp at this
      omega
  have := hperm.countP_eq p
  rw [List.countP_map] at this
  exact this
theorem onto_of {f : Nat → Nat} {n : Nat} (hf : ∀ q, q < n → f q < n) (hi : ∀ a b, a < n → b < n → f a = f b → a = b) {i : Nat} (h : i < n) : ∃ j, j < n ∧ f j = i := by
  refine Classical.byContradiction fun hn => ?_
  have hnd : (i :: (List.range n).map f).Nodup := by
    rw [List.nodup_cons]
    refine ⟨fun hm => ?_, ?_⟩
    · obtain ⟨q, hq, e⟩ := List.mem_map.1 hm
      exact hn ⟨q, by simpa using hq, e⟩
    · rw [List.Nodup, List.pairwise_map]
      exact (List.nodup_range (n := n)).imp_of_mem fun {a b} ha hb hne e => hne (hi a b (by simpa using ha) (by simpa using hb) e)
  have := nodup_lt n _ hnd (fun x hx => by
    rcases List.mem_cons.1 hx with rfl | hx
    · exact h
    · obtain ⟨q, hq, rfl⟩ := List.mem_map.1 hx
      exact hf q (by simpa using hq))
  simp at this
  omega

/-! ### What a word's ends tell apart -/
/-- The states from which a word, read backwards, leads to a good one. -/
def endE (X : Dfa) (z : List Nat) : Nat → Bool := fun q => decide (q < X.next.length) && gdF X (goW X q z.reverse)
theorem endE_snoc (X : Dfa) (hX : X.wf) (z : List Nat) (a : Nat) (ha : a < X.k) (q : Nat) (hq : q < X.next.length) : endE X (z ++ [a]) q = endE X z (nx X q a) := by
  have := nx_lt hX hq ha
  simp only [endE, hq, this, decide_true, Bool.true_and, List.reverse_append, List.reverse_cons, List.reverse_nil, List.nil_append, List.cons_append]
  rfl
theorem endE_ge (X : Dfa) (z : List Nat) {q : Nat} (hq : ¬ q < X.next.length) : endE X z q = false := by simp [endE, hq]
/-- There are two states that no end of a word tells apart, but for those ends that hold as many states as there are good ones. -/
theorem ends_pair {X : Dfa} (hX : X.wf) (hn4 : X.next.length ≤ 4) : ∀ w, Ok X.k w → ∃ i j, i < 4 ∧ j < 4 ∧ i ≠ j ∧ ∀ u z, w = u ++ z → cnt (endE X z) X.next.length = cnt (endE X []) X.next.length ∨ endE X z i = endE X z j := by
  refine snoc_ind ?_ ?_
  · intro _
    refine ⟨0, 1, by omega, by omega, by omega, fun u z e => ?_⟩
    rw [(List.append_eq_nil_iff.1 e.symm).2]; exact .inl rfl
  · intro w a ih hw
    have ha : a < X.k := hw a (by simp)
    obtain ⟨i, j, hi, hj, hij, h⟩ := ih hw.left
    have hf : ∀ q, q < X.next.length → nx X q a < X.next.length := fun q hq => nx_lt hX hq ha
    have split : ∀ u z, w ++ [a] = u ++ z → z = [] ∨ ∃ z', z = z' ++ [a] ∧ w = u ++ z' := by
      intro u z e
      rcases List.eq_nil_or_concat z with rfl | ⟨z', b, rfl⟩
      · exact .inl rfl
      · rw [List.concat_eq_append, ← List.append_assoc] at e
        obtain ⟨e1, e2⟩ := List.append_inj' e rfl
        simp only [List.cons.injEq, and_true] at e2
        subst e2
        exact .inr ⟨z', List.concat_eq_append, e1⟩
    by_cases hinj : ∀ p q, p < X.next.length → q < X.next.length → nx X p a = nx X q a → p = q
    · -- the letter moves the states
      have hback : ∀ i, i < 4 → ∃ i', i' < 4 ∧ (i < X.next.length → i' < X.next.length ∧ nx X i' a = i) ∧ (¬ i < X.next.length → i' = i) := fun i hi => by
        by_cases hin : i < X.next.length
        · obtain ⟨i', h1, h2⟩ := onto_of hf hinj hin
          exact ⟨i', by omega, fun _ => ⟨h1, h2⟩, fun h => absurd hin h⟩
        · exact ⟨i, hi, fun h => absurd h hin, fun _ => rfl⟩
      obtain ⟨i', a1, a2, a3⟩ := hback i hi
      obtain ⟨j', b1, b2, b3⟩ := hback j hj
      have hbit : ∀ (i i' : Nat) z, (i < X.next.length → i' < X.next.length ∧ nx X i' a = i) → (¬ i < X.next.length → i' = i) → endE X (z ++ [a]) i' = endE X z i := by
        intro i i' z q1 q2
        by_cases hin : i < X.next.length
        · obtain ⟨q3, q4⟩ := q1 hin
          rw [endE_snoc X hX z a ha i' q3, q4]
        · rw [q2 hin, endE_ge X _ hin, endE_ge X _ hin]
      refine ⟨i', j', a1, b1, fun e => hij ?_, fun u z e => ?_⟩
      · by_cases hin : i < X.next.length
        · obtain ⟨q1, q2⟩ := a2 hin
          by_cases hjn : j < X.next.length
          · obtain ⟨q3, q4⟩ := b2 hjn
            rw [← q2, ← q4, e]
          · have := b3 hjn; omega
        · have h1 := a3 hin
          by_cases hjn : j < X.next.length
          · obtain ⟨q3, q4⟩ := b2 hjn; omega
          · have := b3 hjn; omega
      · rcases split u z e with rfl | ⟨z', rfl, e'⟩
        · exact .inl rfl
        · rcases h u z' e' with q | q
          · refine .inl ?_
            rw [← q]
            have := cnt_perm (endE X z') (fun q => nx X q a) X.next.length hf hinj
            rw [← this]
            unfold cnt
            refine List.countP_congr fun x hx => ?_
            rw [endE_snoc X hX z' a ha x (by simpa using hx)]
          · refine .inr ?_
            rw [hbit i i' z' a2 a3, hbit j j' z' b2 b3, q]
    · -- the letter leads two states to one
      have hex : ∃ p q, p < X.next.length ∧ q < X.next.length ∧ nx X p a = nx X q a ∧ p ≠ q := by
        refine Classical.byContradiction fun hn => hinj fun p q hp hq e => ?_
        refine Classical.byContradiction fun hne => hn ⟨p, q, hp, hq, e, hne⟩
      obtain ⟨p, q, hp, hq, e0, hne⟩ := hex
      refine ⟨p, q, by omega, by omega, hne, fun u z e => ?_⟩
      rcases split u z e with rfl | ⟨z', rfl, _⟩
      · exact .inl rfl
      · exact .inr (by rw [endE_snoc X hX z' a ha p hp, endE_snoc X hX z' a ha q hq, e0])

/-! ### The count -/
/-- Which sets of four are not told apart at i and j, or hold c. -/
def okM (i j c m : Nat) : Bool := decide (popc m 4 = c) || m.testBit i == m.testBit j
def allM (i j c : Nat) : Nat := maskF (okM i j c) 16
theorem allM_few : ∀ j, j < 4 → ∀ i, i < j → ∀ c, c < 5 → popc (allM i j c) 16 ≤ 12 := by decide +kernel
def pidx (i j : Nat) : Nat := j * (j - 1) / 2 + i
theorem pidx_lt : ∀ j, j < 4 → ∀ i, i < j → pidx i j < 6 := by decide +kernel
theorem pidx_inj {i j i' j' : Nat} (hj : j < 4) (hi : i < j) (hj' : j' < 4) (hi' : i' < j') (e : pidx i j = pidx i' j') : i = i' ∧ j = j' := by
  unfold pidx at e
  rcases (show j = 1 ∨ j = 2 ∨ j = 3 by omega) with rfl | rfl | rfl <;> rcases (show j' = 1 ∨ j' = 2 ∨ j' = 3 by omega) with rfl | rfl | rfl <;> simp at e <;> omega
theorem popc_cnt (p : Nat → Bool) : ∀ n, popc (maskF p 4) n = cnt (fun q => decide (q < 4) && p q) n
  | 0 => rfl
  | n + 1 => by
    have ih := popc_cnt p n
    unfold cnt at ih ⊢
    rw [List.range_succ, List.countP_append]
    simp only [popc, maskF_bit]
    split
    · next h => rw [ih]; simp [h]
    · next h => rw [ih]; simp [h]
theorem cnt_more (p : Nat → Bool) (n : Nat) (h : ∀ q, ¬ q < n → p q = false) : ∀ d, cnt p (n + d) = cnt p n
  | 0 => rfl
  | d + 1 => by
    have ih := cnt_more p n h d
    unfold cnt at ih ⊢
    rw [← Nat.add_assoc, List.range_succ, List.countP_append, ih]
    simp [h (n + d) (by omega)]
/-- The states from which the end of a word leads to a good one, as a number. -/
def endM (X : Dfa) (z : List Nat) : Nat := maskF (endE X z) 4
theorem endM_lt (X : Dfa) (z : List Nat) : endM X z < 16 := maskF_lt _ 4
theorem endM_bit (X : Dfa) (hn4 : X.next.length ≤ 4) (z : List Nat) (q : Nat) : (endM X z).testBit q = endE X z q := by
  unfold endM
  rw [maskF_bit]
  by_cases h : q < 4
  · simp [h]
  · rw [endE_ge X z (by omega)]; simp
theorem endM_popc (X : Dfa) (hn4 : X.next.length ≤ 4) (z : List Nat) : popc (endM X z) 4 = cnt (endE X z) X.next.length := by
  unfold endM
  rw [popc_cnt]
  obtain ⟨d, hd⟩ : ∃ d, 4 = X.next.length + d := ⟨4 - X.next.length, by omega⟩
  have h1 : cnt (fun q => decide (q < 4) && endE X z q) 4 = cnt (endE X z) 4 := by
    unfold cnt
    refine List.countP_congr fun q hq => ?_
    have : q < 4 := by simpa using hq
    simp [this]
  rw [h1, hd, cnt_more _ _ (fun q h => endE_ge X z h)]
theorem cnt_le (p : Nat → Bool) (n : Nat) : cnt p n ≤ n := by
  have := List.countP_le_length (p := p) (l := List.range n)
  simpa [cnt] using this

/-- r is the least automaton of X's words read backwards. -/
structure Back (X r : Dfa) : Prop where
  wf : X.wf
  n4 : X.next.length ≤ 4
  bf : Bf X
  canon : Canon r
  k : r.k = X.k
  acc : ∀ w, Ok X.k w → accW r w = accW X w.reverse
theorem Back.same {X r : Dfa} (b : Back X r) {z z' : List Nat} (hz : Ok X.k z) (hz' : Ok X.k z') : goW r 0 z = goW r 0 z' ↔ endM X z = endM X z' := by
  have hr := b.canon.wf
  constructor
  · intro e
    refine Nat.eq_of_testBit_eq fun q => ?_
    rw [endM_bit X b.n4, endM_bit X b.n4]
    by_cases hq : q < X.next.length
    · obtain ⟨u, hu, e1⟩ := b.bf.word hq
      have h1 := b.acc (z ++ u.reverse) (hz.app hu.rev); have h2 := b.acc (z' ++ u.reverse) (hz'.app hu.rev)
      rw [List.reverse_append, List.reverse_reverse] at h1 h2
      unfold accW at h1 h2
      rw [goW_app, goW_app] at h1 h2
      rw [e1] at h1 h2
      rw [e, h2] at h1
      simp only [endE, hq, decide_true, Bool.true_and, gdF]
      exact h1.symm
    · rw [endE_ge X _ hq, endE_ge X _ hq]
  · intro e
    refine b.canon.apart _ _ (goW_lt hr _ 0 hr.n1 (by rw [b.k]; exact hz)) (goW_lt hr _ 0 hr.n1 (by rw [b.k]; exact hz')) fun w hw => ?_
    rw [b.k] at hw
    have h1 := b.acc (z ++ w) (hz.app hw); have h2 := b.acc (z' ++ w) (hz'.app hw)
    rw [List.reverse_append] at h1 h2
    unfold accW at h1 h2
    rw [goW_app, goW_app] at h1 h2
    have hq : goW X 0 w.reverse < X.next.length := goW_lt b.wf _ 0 b.wf.n1 hw.rev
    have h3 : (endM X z).testBit (goW X 0 w.reverse) = (endM X z').testBit (goW X 0 w.reverse) := by rw [e]
    rw [endM_bit X b.n4, endM_bit X b.n4] at h3
    simp only [endE, hq, decide_true, Bool.true_and, gdF] at h3
    rw [h1, h2, h3]

/-- The sets that a key of Follow holds, as numbers. -/
theorem fol_few {X r v : Dfa} (b : Back X r) (hv : v.ok) (hr : r.ok) (hk : v.k = r.k) (hvn : v.next.length ≤ 16) : ∀ l : List Tw, l.Nodup → (∀ y ∈ l, ∃ w, Ok v.k w ∧ y = runN (folN v r) (entN v ⟨0, 0⟩) w) → l.length ≤ 400000 := by
  classical
  have hkX : v.k = X.k := hk.trans b.k
  -- for each state of r the number of its end
  have hE : ∃ E : Nat → Nat, ∀ z, Ok X.k z → E (goW r 0 z) = endM X z := by
    refine ⟨fun t => if h : ∃ z, Ok X.k z ∧ goW r 0 z = t then endM X (Classical.choose h) else 0, fun z hz => ?_⟩
    have h : ∃ z', Ok X.k z' ∧ goW r 0 z' = goW r 0 z := ⟨z, hz, rfl⟩
    simp only [dif_pos h]
    obtain ⟨h1, h2⟩ := Classical.choose_spec h
    exact (b.same h1 hz).1 h2
  obtain ⟨E, hE⟩ := hE
  obtain ⟨c, hc⟩ : ∃ c, c = cnt (endE X []) X.next.length := ⟨_, rfl⟩
  have hc5 : c < 5 := by have := cnt_le (endE X []) X.next.length; have := b.n4; omega
  -- what is known of a key
  have hkey : ∀ w, Ok v.k w → ∃ i j, i < j ∧ j < 4 ∧ ∀ t, (runN (folN v r) (entN v ⟨0, 0⟩) w).b.testBit t = true → E t < 16 ∧ okM i j c (E t) = true := by
    intro w hw
    obtain ⟨i, j, hi, hj, hij, h⟩ := ends_pair b.wf b.n4 w (by rw [← hkX]; exact hw)
    obtain ⟨_, _, hrun⟩ := fol_run hv hr hk w hw
    have key : ∀ i j, (∀ u z, w = u ++ z → cnt (endE X z) X.next.length = cnt (endE X []) X.next.length ∨ endE X z i = endE X z j) → ∀ t, (runN (folN v r) (entN v ⟨0, 0⟩) w).b.testBit t = true → E t < 16 ∧ okM i j c (E t) = true := by
      intro i j h t ht
      obtain ⟨u, z, e, _, h2⟩ := (hrun t).1 ht
      have hz : Ok X.k z := by rw [← hkX]; rw [e] at hw; exact hw.right
      rw [← h2, hE z hz]
      refine ⟨endM_lt X z, ?_⟩
      unfold okM
      rw [endM_popc X b.n4, endM_bit X b.n4, endM_bit X b.n4, Bool.or_eq_true, decide_eq_true_iff, beq_iff_eq, hc]
      exact h u z e
    rcases Nat.lt_or_ge i j with hlt | hge
    · exact ⟨i, j, hlt, hj, key i j h⟩
    · exact ⟨j, i, by omega, hi, key j i fun u z e => (h u z e).imp_right Eq.symm⟩
  have hP : ∃ P : Tw → Nat × Nat, ∀ y, (∃ w, Ok v.k w ∧ y = runN (folN v r) (entN v ⟨0, 0⟩) w) → (P y).1 < (P y).2 ∧ (P y).2 < 4 ∧ ∀ t, y.b.testBit t = true → E t < 16 ∧ okM (P y).1 (P y).2 c (E t) = true := by
    refine ⟨fun y => if h : ∃ p : Nat × Nat, p.1 < p.2 ∧ p.2 < 4 ∧ ∀ t, y.b.testBit t = true → E t < 16 ∧ okM p.1 p.2 c (E t) = true then Classical.choose h else (0, 0), fun y hy => ?_⟩
    obtain ⟨w, hw, rfl⟩ := hy
    obtain ⟨i, j, h1, h2, h3⟩ := hkey w hw
    have h : ∃ p : Nat × Nat, p.1 < p.2 ∧ p.2 < 4 ∧ ∀ t, (runN (folN v r) (entN v ⟨0, 0⟩) w).b.testBit t = true → E t < 16 ∧ okM p.1 p.2 c (E t) = true := ⟨(i, j), h1, h2, h3⟩
    simp only [dif_pos h]
    exact Classical.choose_spec h
  obtain ⟨P, hP⟩ := hP
  obtain ⟨S, hS⟩ : ∃ S : Tw → Nat, S = fun y => maskF (fun m => (List.range r.next.length).any fun t => y.b.testBit t && decide (E t = m)) 16 := ⟨_, rfl⟩
  have hSb : ∀ y m, m < 16 → ((S y).testBit m = true ↔ ∃ t, t < r.next.length ∧ y.b.testBit t = true ∧ E t = m) := by
    intro y m hm
    rw [hS]
    simp only [maskF_bit, hm, decide_true, Bool.true_and, List.any_eq_true, List.mem_range, Bool.and_eq_true, decide_eq_true_iff]
  refine cap_of (fun y => (y.a * 6 + pidx (P y).1 (P y).2) * 4096 + comp (allM (P y).1 (P y).2 c) (S y) 16) 393216 400000 (by omega) ?_ ?_
  · intro y hy
    obtain ⟨h1, h2, h3⟩ := hP y hy
    obtain ⟨w, hw, rfl⟩ := hy
    obtain ⟨_, i2, _⟩ := fol_run hv hr hk w hw
    have ha := i2.1
    have hp := pidx_lt _ h2 _ h1
    have hcm := comp_lt (allM (P (runN (folN v r) (entN v ⟨0, 0⟩) w)).1 (P (runN (folN v r) (entN v ⟨0, 0⟩) w)).2 c) (S (runN (folN v r) (entN v ⟨0, 0⟩) w)) 16
    have hpc := allM_few _ h2 _ h1 c hc5
    have hpw : 2 ^ popc (allM (P (runN (folN v r) (entN v ⟨0, 0⟩) w)).1 (P (runN (folN v r) (entN v ⟨0, 0⟩) w)).2 c) 16 ≤ 2 ^ 12 := Nat.pow_le_pow_right (by omega) hpc
    show (_ * 6 + pidx _ _) * 4096 + comp _ _ 16 < 393216
    omega
  · intro y y' hy hy' e
    obtain ⟨h1, h2, h3⟩ := hP y hy
    obtain ⟨h1', h2', h3'⟩ := hP y' hy'
    have hp := pidx_lt _ h2 _ h1; have hp' := pidx_lt _ h2' _ h1'
    have hcm := comp_lt (allM (P y).1 (P y).2 c) (S y) 16; have hcm' := comp_lt (allM (P y').1 (P y').2 c) (S y') 16
    have hpc := allM_few _ h2 _ h1 c hc5; have hpc' := allM_few _ h2' _ h1' c hc5
    have hpw : 2 ^ popc (allM (P y).1 (P y).2 c) 16 ≤ 2 ^ 12 := Nat.pow_le_pow_right (by omega) hpc
    have hpw' : 2 ^ popc (allM (P y').1 (P y').2 c) 16 ≤ 2 ^ 12 := Nat.pow_le_pow_right (by omega) hpc'
    have e' : (y.a * 6 + pidx (P y).1 (P y).2) * 4096 + comp (allM (P y).1 (P y).2 c) (S y) 16 = (y'.a * 6 + pidx (P y').1 (P y').2) * 4096 + comp (allM (P y').1 (P y').2 c) (S y') 16 := e
    have ea : y.a = y'.a := by omega
    have ep : pidx (P y).1 (P y).2 = pidx (P y').1 (P y').2 := by omega
    have ec : comp (allM (P y).1 (P y).2 c) (S y) 16 = comp (allM (P y').1 (P y').2 c) (S y') 16 := by omega
    obtain ⟨q1, q2⟩ := pidx_inj h2 h1 h2' h1' ep
    rw [← q1, ← q2] at ec h3'
    have hin : ∀ y : Tw, (∀ t, y.b.testBit t = true → E t < 16 ∧ okM (P y').1 (P y').2 c (E t) = true) → True := fun _ _ => trivial
    have hsub : ∀ x : Tw, (∀ t, x.b.testBit t = true → E t < 16 ∧ okM (P y).1 (P y).2 c (E t) = true) → ∀ m, m < 16 → (S x).testBit m = true → (allM (P y).1 (P y).2 c).testBit m = true := by
      intro x hx m hm h
      obtain ⟨t, _, q3, rfl⟩ := (hSb x m hm).1 h
      unfold allM
      rw [maskF_bit]
      simp [hm, (hx t q3).2]
    have hbits := comp_inj 16 (hsub y h3) (hsub y' h3') ec
    obtain ⟨w, hw, rfl⟩ := hy
    obtain ⟨w', hw', rfl⟩ := hy'
    obtain ⟨_, i2, i3⟩ := fol_run hv hr hk w hw
    obtain ⟨_, i2', i3'⟩ := fol_run hv hr hk w' hw'
    generalize runN (folN v r) (entN v ⟨0, 0⟩) w = x at *
    generalize runN (folN v r) (entN v ⟨0, 0⟩) w' = x' at *
    -- a state of the one set is one of the other
    have half : ∀ a a' : Tw, (∀ s, a.b.testBit s = true ↔ ∃ u z, w = u ++ z ∧ accW v u = true ∧ goW r 0 z = s) ∨ (∀ s, a.b.testBit s = true ↔ ∃ u z, w' = u ++ z ∧ accW v u = true ∧ goW r 0 z = s) →
        (∀ s, a'.b.testBit s = true ↔ ∃ u z, w = u ++ z ∧ accW v u = true ∧ goW r 0 z = s) ∨ (∀ s, a'.b.testBit s = true ↔ ∃ u z, w' = u ++ z ∧ accW v u = true ∧ goW r 0 z = s) →
        FolI v r a → (∀ t, a.b.testBit t = true → E t < 16) → (∀ m, m < 16 → (S a).testBit m = (S a').testBit m) → ∀ t, a.b.testBit t = true → a'.b.testBit t = true := by
      intro a a' ha ha' hI h16 hb t ht
      have htn := bit_lt hI.2 ht
      have h5 := (hSb a (E t) (h16 t ht)).2 ⟨t, htn, ht, rfl⟩
      rw [hb _ (h16 t ht)] at h5
      obtain ⟨t', _, h6, h7⟩ := (hSb a' (E t) (h16 t ht)).1 h5
      have hz : ∀ (a : Tw), ((∀ s, a.b.testBit s = true ↔ ∃ u z, w = u ++ z ∧ accW v u = true ∧ goW r 0 z = s) ∨ (∀ s, a.b.testBit s = true ↔ ∃ u z, w' = u ++ z ∧ accW v u = true ∧ goW r 0 z = s)) → ∀ t, a.b.testBit t = true → ∃ z, Ok X.k z ∧ goW r 0 z = t := by
        intro a ha t ht
        rcases ha with q | q
        · obtain ⟨u, z, e, _, h⟩ := (q t).1 ht
          exact ⟨z, by rw [← hkX]; rw [e] at hw; exact hw.right, h⟩
        · obtain ⟨u, z, e, _, h⟩ := (q t).1 ht
          exact ⟨z, by rw [← hkX]; rw [e] at hw'; exact hw'.right, h⟩
      obtain ⟨z, z1, z2⟩ := hz a ha t ht
      obtain ⟨z', z1', z2'⟩ := hz a' ha' t' h6
      have : t' = t := by
        rw [← z2, ← z2']
        refine (b.same z1' z1).2 ?_
        rw [← hE z z1, ← hE z' z1', z2, z2', h7]
      rw [← this]; exact h6
    have eb : x.b = x'.b := by
      refine Nat.eq_of_testBit_eq fun t => ?_
      have f1 := half x x' (.inl i3) (.inr i3') i2 (fun t ht => (h3 t ht).1) (fun m hm => hbits m hm) t
      have f2 := half x' x (.inr i3') (.inl i3) i2' (fun t ht => (h3' t ht).1) (fun m hm => (hbits m hm).symm) t
      cases q1 : x.b.testBit t <;> cases q2 : x'.b.testBit t
      · rfl
      · rw [f2 q2] at q1; cases q1
      · rw [f1 q1] at q2; cases q2
      · rfl
    cases x; cases x'
    simp only at ea eb
    rw [ea, eb]
end Go.Proofs

end

section
/-
  Plain law: what Reverse, Follow and Repeat of few states give.
-/
namespace Go.Proofs
open Go Go.AH
set_option maxRecDepth 10000
set_option maxHeartbeats 4000000

theorem acc_eq {M N : Dfa} {u v : List Nat} (h : accW M u = true ↔ accW N v = true) : accW M u = accW N v := by
  cases h1 : accW M u <;> cases h2 : accW N v <;> simp_all
theorem two_le {n k : Nat} (h : n ≤ k) : 2 ^ n ≤ 2 ^ k := Nat.pow_le_pow_right (by omega) h
theorem kept_ok {M : Dfa} (h : M.next.length ≤ 64) : keptA M = .tup [M.av, .int .i64 0] := by unfold keptA; rw [if_neg (by omega)]

/-- Reverse of an automaton with few states. -/
theorem turn_rev {x : Dfa} (hx : x.ok) (h : x.next.length ≤ 6) : ∃ r, keptO (revM (leastF x)) = .tup [r.av, .int .i64 0] ∧ Canon r ∧ r.k = x.k ∧ r.next.length ≤ 2 ^ x.next.length ∧ ∀ w, Ok x.k w → accW r w = accW x w.reverse := by
  have hn := least_n hx.wf
  have hk := least_k hx.wf
  have hok : (leastF x).ok := (least_canon hx.wf).ok (by have := hx.n64; omega)
  obtain ⟨R, e, w1, w2, w3, w4⟩ := rev_few hok (by omega)
  have hle : 2 ^ (leastF x).next.length ≤ 2 ^ x.next.length := two_le hn
  have h6 : 2 ^ x.next.length ≤ 2 ^ 6 := two_le h
  have hR := least_n w1
  refine ⟨leastF R, ?_, least_canon w1, by rw [least_k w1, w2, hk], by omega, fun w hw => ?_⟩
  · rw [e]
    exact kept_ok (by omega)
  · rw [least_acc w1 w (by rw [w2, hk]; exact hw), w4 w (by rw [hk]; exact hw), least_acc hx.wf _ hw.rev]
/-- Reverse of what Reverse gave. -/
theorem turn_back {x r : Dfa} (hx : x.ok) (h : x.next.length ≤ 6) (c : Canon r) (hk : r.k = x.k) (hn : r.next.length ≤ 64) (ha : ∀ w, Ok x.k w → accW r w = accW x w.reverse) : keptO (revM (leastF r)) = .tup [(leastF x).av, .int .i64 0] := by
  have hr : leastF r = r := (c.least c.wf rfl fun _ _ => rfl).symm
  rw [hr]
  have hl : ∀ w, Ok r.k w → accW x w = accW r w.reverse := fun w hw => by
    rw [ha _ (by rw [← hk]; exact hw.rev), List.reverse_reverse]
  obtain ⟨R, e, w1, w2, w3, w4⟩ := rev_some (c.ok hn) c.bf hx.wf hk.symm hl (by omega)
  have hR : leastF R = leastF x := least_lang w1 hx.wf (by rw [w2, hk]) fun w hw => by
    rw [w2] at hw
    rw [w4 w hw, ← hl w hw]
  rw [e]
  show keptA (leastF R) = _
  rw [hR]
  have := least_n hx.wf
  exact kept_ok (by omega)
theorem turn_rep {x : Dfa} (hx : x.ok) (h : x.next.length ≤ 4) : ∃ p, keptO (repM x) = .tup [p.av, .int .i64 0] ∧ Canon p ∧ p.k = x.k ∧ p.next.length ≤ 17 ∧ keptO (repM p) = .tup [p.av, .int .i64 0] := by
  obtain ⟨R, e, w1, w2, w3, w4⟩ := rep_some hx (by omega)
  have h4 : 2 ^ x.next.length ≤ 2 ^ 4 := two_le h
  have hR := least_n w1
  have c := least_canon w1
  have hk := least_k w1
  have ha := fun w hw => least_acc w1 w hw
  have hpp := least_least w1
  have hpe : keptO (repM x) = keptA (leastF R) := by rw [e]; rfl
  refine ⟨leastF R, ?_, c, by rw [hk, w2], by omega, ?_⟩
  · rw [hpe]; exact kept_ok (by omega)
  · generalize leastF R = p at *
    have hpok := c.ok (by omega)
    obtain ⟨Q, e2, q1, q2, q3, q4⟩ := rep_some hpok (by omega)
    have hpa : ∀ w, Ok x.k w → (accW p w = true ↔ Star (fun u => accW x u = true) w) := fun w hw => by
      rw [ha w (by rw [w2]; exact hw), w4 w hw]
    have hQ : leastF Q = p := by
      rw [← hpp]
      refine least_lang q1 c.wf q2 fun w hw => acc_eq ?_
      rw [q2, hk, w2] at hw
      rw [q4 w (by rw [hk, w2]; exact hw)]
      constructor
      · intro q
        have q' : Star (Star fun u => accW x u = true) w := q.congr hpa hw
        exact (hpa w hw).2 q'.star
      · exact fun q => Star.one q
    rw [e2]
    show keptA (leastF Q) = _
    rw [hQ]
    exact kept_ok (by omega)
/-- Follow, if the keys are not too many. -/
theorem fol_some {A B : Dfa} (hA : A.ok) (hB : B.ok) (hk : A.k = B.k) (hcap : ∀ l : List Tw, l.Nodup → (∀ y ∈ l, ∃ w, Ok A.k w ∧ y = runN (folN A B) (entN A ⟨0, 0⟩) w) → l.length ≤ 400000) :
    ∃ R, folM A B = some R ∧ R.wf ∧ R.k = A.k ∧ ∀ w, Ok A.k w → (accW R w = true ↔ Cat (fun u => accW A u = true) (fun v => accW B v = true) w) := by
  obtain ⟨st, e, o⟩ := mk_some (folN A B) 400000 A.k hA.k1 hA.k4 (by omega) (by omega) (entN A ⟨0, 0⟩) (fun y => ∃ w, Ok A.k w ∧ y = runN (folN A B) (entN A ⟨0, 0⟩) w) hcap
    (fun x i ⟨w, hw, hx⟩ hi => ⟨w ++ [i], hw.app (Ok.one hi), by rw [runN_snoc, ← hx]⟩) ⟨[], Ok.nil, rfl⟩
  refine ⟨_, by unfold folM mkM; rw [e]; rfl, o.wf (folG B), rfl, fun w hw => ?_⟩
  rw [o.acc (folG B) w hw, fol_acc hA hB hk hw]
theorem fol_cap {A B : Dfa} {most : Nat} (h : A.next.length * 2 ^ B.next.length ≤ most) : ∀ l : List Tw, l.Nodup → (∀ y ∈ l, FolI A B y) → l.length ≤ most := by
  refine cap_of (fun y => y.a * 2 ^ B.next.length + y.b) (A.next.length * 2 ^ B.next.length) most h (fun y hy => ?_) fun y y' hy hy' e => ?_
  · have h1 : (y.a + 1) * 2 ^ B.next.length ≤ A.next.length * 2 ^ B.next.length := Nat.mul_le_mul_right _ hy.1
    have h2 := hy.2
    rw [Nat.add_mul] at h1
    show y.a * 2 ^ B.next.length + y.b < _
    omega
  · have e' : y.a * 2 ^ B.next.length + y.b = y'.a * 2 ^ B.next.length + y'.b := e
    have h1 := hy.2; have h2 := hy'.2
    have hp : 0 < 2 ^ B.next.length := Nat.two_pow_pos _
    have ea : y.a = y'.a := by
      have q1 : (y.a * 2 ^ B.next.length + y.b) / 2 ^ B.next.length = y.a := by rw [Nat.mul_comm, Nat.mul_add_div hp, Nat.div_eq_of_lt h1]; omega
      have q2 : (y'.a * 2 ^ B.next.length + y'.b) / 2 ^ B.next.length = y'.a := by rw [Nat.mul_comm, Nat.mul_add_div hp, Nat.div_eq_of_lt h2]; omega
      rw [← q1, ← q2, e']
    rw [ea] at e'
    have eb : y.b = y'.b := by omega
    cases y; cases y'
    simp only at ea eb
    rw [ea, eb]
/-- Follow of few states. -/
theorem turn_fol {x y : Dfa} (hx : x.ok) (hy : y.ok) (hk : x.k = y.k) (hm : x.next.length * 2 ^ y.next.length ≤ 400000) : ∃ U, folM x y = some U ∧ U.wf ∧ U.k = x.k ∧ U.next.length ≤ x.next.length * 2 ^ y.next.length ∧ ∀ w, Ok x.k w → (accW U w = true ↔ Cat (fun u => accW x u = true) (fun v => accW y v = true) w) := by
  have hst : FolI x y (entN x ⟨0, 0⟩) := entN_inv hy ⟨hx.n1, Nat.two_pow_pos _⟩
  obtain ⟨st, e, o⟩ := mk_some (folN x y) 400000 x.k hx.k1 hx.k4 (by omega) (by omega) (entN x ⟨0, 0⟩) (FolI x y) (fol_cap hm) (fun z i h hi => folN_inv hx hy hk h hi) hst
  have hl := fol_cap (A := x) (B := y) (Nat.le_refl _) st.1 o.nodup ((rIter_inv (folN x y) (400000 : Nat) (FolI x y) x.k (fun z i h hi => folN_inv hx hy hk h hi) (entN x ⟨0, 0⟩) hst _ _ e).2)
  refine ⟨_, by unfold folM mkM; rw [e]; rfl, o.wf (folG y), rfl, by have := o.len; simp only; omega, fun w hw => ?_⟩
  rw [o.acc (folG y) w hw, fol_acc hx hy hk hw]
/-- Reverse exchanges the operands of Follow. -/
theorem turn_swap {x y r v u : Dfa} (hx : x.ok) (hy : y.ok) (hxn : x.next.length ≤ 4) (hyn : y.next.length ≤ 4) (hk : x.k = y.k)
    (cr : Canon r) (rk : r.k = x.k) (rn : r.next.length ≤ 16) (ra : ∀ w, Ok x.k w → accW r w = accW x w.reverse)
    (cv : Canon v) (vk : v.k = y.k) (vn : v.next.length ≤ 16) (va : ∀ w, Ok y.k w → accW v w = accW y w.reverse)
    (cu : Canon u) (uk : u.k = x.k) (un : u.next.length ≤ 64) (ua : ∀ w, Ok x.k w → (accW u w = true ↔ Cat (fun a => accW x a = true) (fun b => accW y b = true) w)) :
    ∃ Z : Dfa, Z.wf ∧ keptO (revM (leastF u)) = keptA Z ∧ keptO (folM v r) = keptA Z := by
  have hu : leastF u = u := (cu.least cu.wf rfl fun _ _ => rfl).symm
  rw [hu]
  have hkv : v.k = r.k := by rw [vk, rk, hk]
  have back : Back (leastF x) r := ⟨least_wf hx.wf, by have := least_n hx.wf; omega, (least_canon hx.wf).bf, cr, by rw [rk, least_k hx.wf], fun w hw => by
    rw [least_k hx.wf] at hw
    rw [ra w hw, least_acc hx.wf _ hw.rev]⟩
  have vok := cv.ok (by omega)
  have rok := cr.ok (by omega)
  have uok := cu.ok un
  obtain ⟨R, e, w1, w2, w3⟩ := fol_some vok rok hkv (fol_few back vok rok hkv vn)
  have hl : ∀ w, Ok u.k w → accW R w = accW u w.reverse := fun w hw => by
    have hwx : Ok x.k w := by rw [← uk]; exact hw
    have hwy : Ok y.k w := by rw [← hk]; exact hwx
    refine acc_eq ?_
    rw [w3 w (by rw [vk]; exact hwy), ua _ hwx.rev]
    constructor
    · rintro ⟨a, b, rfl, h1, h2⟩
      refine ⟨b.reverse, a.reverse, by simp, ?_, ?_⟩
      · show accW x b.reverse = true
        rw [← ra b hwx.right]; exact h2
      · show accW y a.reverse = true
        rw [← va a hwy.left]; exact h1
    · rintro ⟨a, b, e, h1, h2⟩
      have e2 : w = b.reverse ++ a.reverse := by rw [← List.reverse_append, ← e, List.reverse_reverse]
      subst e2
      refine ⟨b.reverse, a.reverse, rfl, ?_, ?_⟩
      · show accW v b.reverse = true
        rw [va _ hwy.left, List.reverse_reverse]; exact h2
      · show accW r a.reverse = true
        rw [ra _ hwx.right, List.reverse_reverse]; exact h1
  have hRk : R.k = u.k := by rw [w2, vk, ← hk, uk]
  refine ⟨leastF R, least_wf w1, ?_, by rw [e]; rfl⟩
  cases hrev : revM u with
  | none =>
    have hbig := rev_none uok cu.bf (least_wf w1) (by rw [least_k w1, hRk]) (fun w hw => by rw [least_acc w1 w (by rw [hRk]; exact hw), hl w hw]) hrev
    show _ = keptA (leastF R)
    unfold keptA
    rw [if_pos (by omega)]
    rfl
  | some S =>
    have hS : ∃ st, rIter (revN u) ((65 : Nat) : Int) u.k (goodsF u) (65 + 1) = some st ∧ S = ⟨u.k, st.2, st.1.map revG⟩ := by
      unfold revM mkM at hrev
      cases h : rIter (revN u) ((65 : Nat) : Int) u.k (goodsF u) (65 + 1) with
      | none => rw [h] at hrev; cases hrev
      | some st => rw [h] at hrev; exact ⟨st, rfl, (Option.some.inj hrev).symm⟩
    obtain ⟨st, e3, rfl⟩ := hS
    have o := mk_ok (revN u) 65 u.k uok.k1 uok.k4 (by omega) (by omega) (goodsF u) st e3
    have : leastF ⟨u.k, st.2, st.1.map revG⟩ = leastF R := least_lang (o.wf revG) w1 hRk.symm fun w hw => by
      have hw' : Ok u.k w := hw
      rw [o.acc revG w hw', rev_acc uok hw', hl w hw']
    show keptA (leastF _) = _
    rw [this]
end Go.Proofs

end
