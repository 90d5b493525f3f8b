/-
  Walks and plain laws: Not, Both, Either.
-/
import Derived.Test.YtobhipohnjmnhaaWdPrd
import Derived.Test.YtobhipohnjmnhaaWdWd
set_option linter.unusedSimpArgs false
set_option linter.unusedVariables false
set_option linter.unusedSectionVars false
namespace Go.Proofs
open Go Go.AH
set_option maxRecDepth 10000
set_option maxHeartbeats 4000000

/-- The least machine of two side by side. -/
noncomputable def setF (g : Bool → Bool → Bool) (M N : Dfa) : Dfa := leastF (prodF M N ⟨0, 0⟩ g)
theorem set_n {M N : Dfa} (hM : M.ok) (hN : N.ok) : (Tw.mk 0 0).a < M.next.length ∧ (Tw.mk 0 0).b < N.next.length := ⟨by have := hM.n1; simp only; omega, by have := hN.n1; simp only; omega⟩
theorem set_mul {M N : Dfa} (hM : M.ok) (hN : N.ok) : M.next.length * N.next.length ≤ 1000000 := by
  have : M.next.length * N.next.length ≤ 64 * 64 := Nat.mul_le_mul hM.n64 hN.n64
  omega
theorem set_pwf (g : Bool → Bool → Bool) {M N : Dfa} (hM : M.ok) (hN : N.ok) (hk : M.k = N.k) : (prodF M N ⟨0, 0⟩ g).wf := prod_wf hM.wf hN.wf hk ⟨0, 0⟩ (set_n hM hN) (set_mul hM hN) g
theorem set_canon (g : Bool → Bool → Bool) {M N : Dfa} (hM : M.ok) (hN : N.ok) (hk : M.k = N.k) : Canon (setF g M N) := least_canon (set_pwf g hM hN hk)
theorem set_k (g : Bool → Bool → Bool) {M N : Dfa} (hM : M.ok) (hN : N.ok) (hk : M.k = N.k) : (setF g M N).k = M.k := (least_k (set_pwf g hM hN hk)).trans (prod_k M N ⟨0, 0⟩ g)
theorem set_len (g : Bool → Bool → Bool) {M N : Dfa} (hM : M.ok) (hN : N.ok) (hk : M.k = N.k) : (setF g M N).next.length ≤ M.next.length * N.next.length := by
  have h1 := least_n (set_pwf g hM hN hk)
  obtain ⟨keys, rows, ex, _⟩ := prod_ok hM.wf hN.wf hk ⟨0, 0⟩ (set_n hM hN)
  have : prodF M N ⟨0, 0⟩ g = _ := ex.eq _
  have h2 := ex.rn; have h3 := ex.nN
  unfold setF
  rw [this] at h1 ⊢
  simp only at h1; omega
theorem set_acc (g : Bool → Bool → Bool) {M N : Dfa} (hM : M.ok) (hN : N.ok) (hk : M.k = N.k) (w : List Nat) (hw : Ok M.k w) : accW (setF g M N) w = g (accW M w) (accW N w) := by
  have h := least_acc (set_pwf g hM hN hk) w (by rw [prod_k]; exact hw)
  have h2 := prod_acc hM.wf hN.wf hk ⟨0, 0⟩ (set_n hM hN) g w hw
  exact h.trans h2
theorem Canon.ok {M : Dfa} (c : Canon M) (h : M.next.length ≤ 64) : M.ok := ⟨c.wf.k1, c.wf.k4, c.wf.n1, h, c.wf.gl, c.wf.rl, c.wf.lt⟩
theorem set_ok (g : Bool → Bool → Bool) {M N : Dfa} (hM : M.ok) (hN : N.ok) (hk : M.k = N.k) (h : M.next.length * N.next.length ≤ 64) : (setF g M N).ok := (set_canon g hM hN hk).ok (Nat.le_trans (set_len g hM hN hk) h)

def andB (x y : Bool) : Bool := x && y
def orB (x y : Bool) : Bool := x || y
def notB (x _ : Bool) : Bool := !x
theorem and_pure (x y : Bool) : PureV Try.prog (.fn (.func 82) [] []) [.bool x, .bool y] (.bool (andB x y)) := by
  refine PureV.of (pure_of (acalls_of Try.func82 rfl Try.call82 (by kernel_rfl) (by show _ ≤ (9 : Nat); simp) ?_))
  cases x <;> cases y <;> simp <;> exact finA_self rfl
theorem or_pure (x y : Bool) : PureV Try.prog (.fn (.func 84) [] []) [.bool x, .bool y] (.bool (orB x y)) := by
  refine PureV.of (pure_of (acalls_of Try.func84 rfl Try.call84 (by kernel_rfl) (by show _ ≤ (9 : Nat); simp) ?_))
  cases x <;> cases y <;> simp <;> exact finA_self rfl
theorem not_pure (x y : Bool) : PureV Try.prog (.fn (.func 83) [] []) [.bool x, .bool y] (.bool (notB x y)) := by
  refine PureV.of (pure_of (acalls_of Try.func83 rfl Try.call83 (by kernel_rfl) (by show _ ≤ (7 : Nat); simp) ?_))
  cases x <;> cases y <;> simp <;> exact finA_self rfl

/-- What is kept of a machine, or the error. -/
def keptA (M : Dfa) : AV := if 64 < M.next.length then .tup [noAuto, .int .i64 21] else .tup [M.av, .int .i64 0]
theorem w_Both (M N : Dfa) (hM : M.ok) (hN : N.ok) (hk : M.k = N.k) : Pure Try.prog 40 [M.av, N.av] (keptA (setF andB M N)) := by
  refine pure_of (acalls_of Try.func40 rfl Try.call40 (by kernel_rfl) (by show _ ≤ (20 : Nat); simp) ?_)
  have c1 := w_checkTwo M N hM hN
  rw [if_pos hk] at c1
  have c2 := w_product M N hM.wf hN.wf hk (set_mul hM hN) (.fn (.func 82) [] []) rfl rfl andB and_pure
  have c3 := w_keptT _ (set_pwf andB hM hN hk)
  unfold keptA setF
  simp only [Dfa.av] at c1 c2 c3 ⊢
  simp
  intro b2 hb2
  simp
  intro b3 hb3
  simp at hb3
  simp [hb3]
  intro b4 hb4
  simp at hb4
  simp [hb3, hb4]
  refine c1.use ?_
  simp [hb3, hb4]
  refine c2.use ?_
  simp
  refine c3.use ?_
  by_cases h : 64 < (leastF (prodF M N ⟨0, 0⟩ andB)).next.length
  · simp [h, noAuto]
    exact finA_drop rfl
  · simp [h]
    exact finA_drop rfl
theorem w_Either (M N : Dfa) (hM : M.ok) (hN : N.ok) (hk : M.k = N.k) : Pure Try.prog 42 [M.av, N.av] (keptA (setF orB M N)) := by
  refine pure_of (acalls_of Try.func42 rfl Try.call42 (by kernel_rfl) (by show _ ≤ (20 : Nat); simp) ?_)
  have c1 := w_checkTwo M N hM hN
  rw [if_pos hk] at c1
  have c2 := w_product M N hM.wf hN.wf hk (set_mul hM hN) (.fn (.func 84) [] []) rfl rfl orB or_pure
  have c3 := w_keptT _ (set_pwf orB hM hN hk)
  unfold keptA setF
  simp only [Dfa.av] at c1 c2 c3 ⊢
  simp
  intro b2 hb2
  simp
  intro b3 hb3
  simp at hb3
  simp [hb3]
  intro b4 hb4
  simp at hb4
  simp [hb3, hb4]
  refine c1.use ?_
  simp [hb3, hb4]
  refine c2.use ?_
  simp
  refine c3.use ?_
  by_cases h : 64 < (leastF (prodF M N ⟨0, 0⟩ orB)).next.length
  · simp [h, noAuto]
    exact finA_drop rfl
  · simp [h]
    exact finA_drop rfl
theorem w_Not (M : Dfa) (hM : M.ok) : Pure Try.prog 41 [M.av] (keptA (setF notB M M)) := by
  refine pure_of (acalls_of Try.func41 rfl Try.call41 (by kernel_rfl) (by show _ ≤ (17 : Nat); simp) ?_)
  have c1 := w_check M hM
  have c2 := w_product M M hM.wf hM.wf rfl (set_mul hM hM) (.fn (.func 83) [] []) rfl rfl notB not_pure
  have c3 := w_keptT _ (set_pwf notB hM hM rfl)
  unfold keptA setF
  simp only [Dfa.av] at c1 c2 c3 ⊢
  simp
  intro b1 hb1
  simp
  intro b2 hb2
  simp at hb2
  simp [hb2]
  refine c1.use ?_
  simp [hb2]
  refine c2.use ?_
  simp
  refine c3.use ?_
  by_cases h : 64 < (leastF (prodF M M ⟨0, 0⟩ notB)).next.length
  · simp [h, noAuto]
    exact finA_drop rfl
  · simp [h]
    exact finA_drop rfl

/-- Without Not's product: all pairs are of one state twice, so there are no more of them than states. -/
theorem not_len {M : Dfa} (hM : M.ok) : (setF notB M M).next.length ≤ M.next.length := by
  have c := set_canon notB hM hM rfl
  have hk := set_k notB hM hM rfl
  -- the least machine of the machine with the other states good
  have hw : (Dfa.mk M.k M.next (M.good.map (! ·))).wf := ⟨hM.k1, hM.k4, hM.n1, hM.wf.nmax, by simp [hM.gl], hM.rl, hM.lt⟩
  have hgo : ∀ (w : List Nat) (s : Nat), goW ⟨M.k, M.next, M.good.map (! ·)⟩ s w = goW M s w := by
    intro w
    induction w with
    | nil => intro s; rfl
    | cons i w ih => intro s; exact ih _
  have e := c.least hw hk fun w hw2 => by
    rw [set_acc notB hM hM rfl w hw2]
    have hlt : goW M 0 w < M.next.length := goW_lt hM.wf w 0 (by have := hM.n1; omega) hw2
    have hg : goW M 0 w < M.good.length := by rw [hM.gl]; exact hlt
    simp [accW, hgo, notB, hg]
  rw [e]
  exact least_n hw
theorem not_ok {M : Dfa} (hM : M.ok) : (setF notB M M).ok := (set_canon notB hM hM rfl).ok (Nat.le_trans (not_len hM) hM.n64)
end Go.Proofs
