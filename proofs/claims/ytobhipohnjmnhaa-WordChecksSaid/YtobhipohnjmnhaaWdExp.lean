/-
  Plain laws: what reached answers without a bound, as a machine: its language.
-/
import Derived.Test.YtobhipohnjmnhaaV3
import Derived.Test.YtobhipohnjmnhaaWdM0
import Derived.Test.YtobhipohnjmnhaaWdRchT
set_option linter.unusedSimpArgs false
set_option linter.unusedVariables false
set_option linter.unusedSectionVars false
namespace Go.Proofs
open Go Go.AH
set_option maxRecDepth 10000
set_option maxHeartbeats 4000000

section
variable {α : Type} [DecidableEq α]
def runN (ν : α → Nat → α) (x : α) (w : List Nat) : α := w.foldl ν x
/-- The machine of what can be reached. -/
def expF (ν : α → Nat → α) (k : Nat) (start : α) (N : Nat) (good : α → Bool) : Dfa := match rIter ν (-1) k start (N + 1) with
  | some st => ⟨k, st.2, st.1.map good⟩
  | none => ⟨k, [], []⟩
structure ExpOk (ν : α → Nat → α) (k : Nat) (start : α) (N : Nat) (keys : List α) (rows : List (List Nat)) : Prop where
  it : rIter ν (-1) k start (N + 1) = some (keys, rows)
  n1 : 1 ≤ keys.length
  nN : keys.length ≤ N
  rn : rows.length = keys.length
  rl : ∀ r ∈ rows, r.length = k
  lt : ∀ r ∈ rows, ∀ x ∈ r, x < keys.length
  first : keys[0]? = some start
  step : ∀ j, j < keys.length → ∀ i, i < k → ∃ x, keys[j]? = some x ∧ keys[(rows.getD j []).getD i 0]? = some (ν x i)
  bf : ∀ good, Bf ⟨k, rows, good⟩
theorem exp_ok (ν : α → Nat → α) (k : Nat) (start : α) (N : Nat) (hN : ∀ a st, rIter ν (-1) k start a = some st → st.1.length ≤ N) : ∃ keys rows, ExpOk ν k start N keys rows ∧
    ∃ F, F = keys.length ∧ 1 ≤ F ∧ (∀ a st, a < F → rIter ν (-1) k start a = some st → a < st.1.length) ∧ (∀ st, rIter ν (-1) k start F = some st → st.1.length = F) ∧ rIter ν (-1) k start F = some (keys, rows) := by
  obtain ⟨F, F1, F2, F3, F4, F5⟩ := rIter_all ν (-1) k start N hN
  obtain ⟨⟨keys, rows⟩, hkr⟩ := rIter_neg ν k start F
  have hl := F4 _ hkr
  have hr := rIter_rows _ _ _ _ F _ F3 hkr
  have hro := rIter_rowsok _ _ _ _ F _ hkr
  have hn := hN _ _ hkr
  obtain ⟨v1, v2⟩ := rIter_val _ _ _ _ F _ F3 hkr
  simp only at hl hr hro hn v1 v2
  refine ⟨keys, rows, ⟨by rw [← F5]; exact hkr, by omega, hn, by omega, fun r h => (hro r h).1, fun r h => (hro r h).2, v1, fun j hj => v2 j (by omega), fun good => rIter_bf ν (-1) k start F _ F3 hl hkr good⟩, F, hl.symm, F2, F3, F4, hkr⟩

theorem ExpOk.eq {ν : α → Nat → α} {k : Nat} {start : α} {N : Nat} {keys : List α} {rows : List (List Nat)} (e : ExpOk ν k start N keys rows) (good : α → Bool) : expF ν k start N good = ⟨k, rows, keys.map good⟩ := by simp [expF, e.it]
theorem ExpOk.wf {ν : α → Nat → α} {k : Nat} {start : α} {N : Nat} {keys : List α} {rows : List (List Nat)} (e : ExpOk ν k start N keys rows) (hk1 : 1 ≤ k) (hk4 : k ≤ 4) (hN : N ≤ 1000000) (good : α → Bool) : (expF ν k start N good).wf := by
  rw [e.eq]
  have h1 := e.n1; have h2 := e.nN; have h3 := e.rn
  exact ⟨hk1, hk4, by simp only; omega, by simp only; omega, by simp [h3], e.rl, fun r hr x hx => by have := e.lt r hr x hx; simp only; omega⟩
theorem ExpOk.go {ν : α → Nat → α} {k : Nat} {start : α} {N : Nat} {keys : List α} {rows : List (List Nat)} (e : ExpOk ν k start N keys rows) (good : List Bool) : ∀ (w : List Nat) (s : Nat) (x : α), Ok k w → keys[s]? = some x → keys[goW ⟨k, rows, good⟩ s w]? = some (runN ν x w)
  | [], _, _, _, h => h
  | i :: w, s, x, hw, h => by
    obtain ⟨y, h1, h2⟩ := e.step s (List.getElem?_eq_some_iff.1 h).1 i (hw i (by simp))
    rw [h] at h1; cases h1
    exact e.go good w _ _ (fun j hj => hw j (by simp [hj])) h2
theorem ExpOk.acc {ν : α → Nat → α} {k : Nat} {start : α} {N : Nat} {keys : List α} {rows : List (List Nat)} (e : ExpOk ν k start N keys rows) (good : α → Bool) (w : List Nat) (hw : Ok k w) : accW (expF ν k start N good) w = good (runN ν start w) := by
  rw [e.eq]
  have h := e.go (keys.map good) w 0 start hw e.first
  simp only [accW, List.getD_eq_getElem?_getD, List.getElem?_map, h, Option.map_some, Option.getD_some]
theorem ExpOk.bf' {ν : α → Nat → α} {k : Nat} {start : α} {N : Nat} {keys : List α} {rows : List (List Nat)} (e : ExpOk ν k start N keys rows) (good : α → Bool) : Bf (expF ν k start N good) := by rw [e.eq]; exact e.bf _
end

/-! ### Two machines side by side -/
def prodN (m m' : Dfa) (x : Tw) (i : Nat) : Tw := ⟨nx m x.a i, nx m' x.b i⟩
theorem run_prod (m m' : Dfa) : ∀ (w : List Nat) (x : Tw), runN (prodN m m') x w = ⟨goW m x.a w, goW m' x.b w⟩
  | [], _ => rfl
  | i :: w, x => by
    have := run_prod m m' w (prodN m m' x i)
    simp only [runN, List.foldl_cons] at this ⊢
    rw [this]; rfl
theorem nodup_tw (n n' : Nat) (l : List Tw) (hd : l.Nodup) (h : ∀ x ∈ l, x.a < n ∧ x.b < n') : l.length ≤ n * n' := by
  have h1 : (l.map fun x => x.a * n' + x.b).Nodup := by
    refine List.pairwise_map.2 (List.Pairwise.imp_of_mem (fun {x y} hx hy hne e => hne ?_) hd)
    have hx2 := (h x hx).2; have hy2 := (h y hy).2
    have e1 : (x.a * n' + x.b) / n' = (y.a * n' + y.b) / n' := by rw [e]
    have e2 : (x.a * n' + x.b) % n' = (y.a * n' + y.b) % n' := by rw [e]
    rw [Nat.mul_comm x.a, Nat.mul_comm y.a, Nat.mul_add_div (by omega), Nat.mul_add_div (by omega), Nat.div_eq_of_lt hx2, Nat.div_eq_of_lt hy2] at e1
    rw [Nat.mul_comm x.a, Nat.mul_comm y.a, Nat.mul_add_mod, Nat.mul_add_mod, Nat.mod_eq_of_lt hx2, Nat.mod_eq_of_lt hy2] at e2
    cases x; cases y; simp only at e1 e2; simp only [Tw.mk.injEq]; omega
  have h2 := nodup_lt (n * n') _ h1 fun y hy => by
    obtain ⟨x, hx, rfl⟩ := List.mem_map.1 hy
    obtain ⟨ha, hb⟩ := h x hx
    calc x.a * n' + x.b < x.a * n' + n' := by omega
      _ = (x.a + 1) * n' := by rw [Nat.succ_mul]
      _ ≤ n * n' := Nat.mul_le_mul_right _ ha
  simpa using h2
theorem prod_bd {m m' : Dfa} (hm : m.wf) (hm' : m'.wf) (hk : m.k = m'.k) (start : Tw) (hs : start.a < m.next.length ∧ start.b < m'.next.length) (a : Nat) (st : List Tw × List (List Nat)) (e : rIter (prodN m m') (-1) m.k start a = some st) :
    st.1.length ≤ m.next.length * m'.next.length ∧ ∀ x ∈ st.1, x.a < m.next.length ∧ x.b < m'.next.length := by
  obtain ⟨q1, q2⟩ := rIter_inv (prodN m m') (-1) (fun x => x.a < m.next.length ∧ x.b < m'.next.length) m.k (fun x i hx hi => ⟨nx_lt hm hx.1 hi, nx_lt hm' hx.2 (by omega)⟩) start hs a st e
  exact ⟨nodup_tw _ _ _ q1 q2, q2⟩
/-- The machine of two machines side by side, from any two states on. -/
def prodF (m m' : Dfa) (start : Tw) (g : Bool → Bool → Bool) : Dfa := expF (prodN m m') m.k start (m.next.length * m'.next.length) fun x => g (m.good.getD x.a false) (m'.good.getD x.b false)
theorem prod_ok {m m' : Dfa} (hm : m.wf) (hm' : m'.wf) (hk : m.k = m'.k) (start : Tw) (hs : start.a < m.next.length ∧ start.b < m'.next.length) : ∃ keys rows, ExpOk (prodN m m') m.k start (m.next.length * m'.next.length) keys rows ∧
    ∃ F, F = keys.length ∧ 1 ≤ F ∧ (∀ a st, a < F → rIter (prodN m m') (-1) m.k start a = some st → a < st.1.length) ∧ (∀ st, rIter (prodN m m') (-1) m.k start F = some st → st.1.length = F) ∧ rIter (prodN m m') (-1) m.k start F = some (keys, rows) :=
  exp_ok (prodN m m') m.k start (m.next.length * m'.next.length) fun a st e => (prod_bd hm hm' hk start hs a st e).1
theorem prod_acc {m m' : Dfa} (hm : m.wf) (hm' : m'.wf) (hk : m.k = m'.k) (start : Tw) (hs : start.a < m.next.length ∧ start.b < m'.next.length) (g : Bool → Bool → Bool) (w : List Nat) (hw : Ok m.k w) :
    accW (prodF m m' start g) w = g (m.good.getD (goW m start.a w) false) (m'.good.getD (goW m' start.b w) false) := by
  obtain ⟨keys, rows, e, _⟩ := prod_ok hm hm' hk start hs
  have := e.acc (fun x => g (m.good.getD x.a false) (m'.good.getD x.b false)) w hw
  rw [run_prod] at this
  exact this
theorem prod_wf {m m' : Dfa} (hm : m.wf) (hm' : m'.wf) (hk : m.k = m'.k) (start : Tw) (hs : start.a < m.next.length ∧ start.b < m'.next.length) (hn : m.next.length * m'.next.length ≤ 1000000) (g : Bool → Bool → Bool) : (prodF m m' start g).wf := by
  obtain ⟨keys, rows, e, _⟩ := prod_ok hm hm' hk start hs
  exact e.wf hm.k1 hm.k4 hn _
theorem prod_k (m m' : Dfa) (start : Tw) (g : Bool → Bool → Bool) : (prodF m m' start g).k = m.k := by unfold prodF expF; split <;> rfl
theorem prod_bf {m m' : Dfa} (hm : m.wf) (hm' : m'.wf) (hk : m.k = m'.k) (start : Tw) (hs : start.a < m.next.length ∧ start.b < m'.next.length) (g : Bool → Bool → Bool) : Bf (prodF m m' start g) := by
  obtain ⟨keys, rows, e, _⟩ := prod_ok hm hm' hk start hs
  exact e.bf' _
end Go.Proofs
