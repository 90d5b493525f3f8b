/-
  Pair: the law on worth.
-/
import Derived.Test.YtkdhgablioljnaaPbO
set_option linter.unusedSimpArgs false
set_option linter.unusedVariables false
set_option linter.unusedSectionVars false
namespace Go.Proofs
open Go Go.AH
set_option maxRecDepth 10000
set_option maxHeartbeats 8000000

theorem gB_asg : ∀ (n : Nat) (C : List (List Int)) (free : List Int), OO n C → free.length = n → (gB n C free).length = n ∧ ∃ q, Asg n q ∧ (∀ r, r < n → (gB n C free)[r]? = free[q r]?) ∧ aW (cF C) q n = optV n (cF C)
  | 0, C, free, h, hf => ⟨rfl, id, ⟨fun r h => h, fun r s h => absurd h (Nat.not_lt_zero r)⟩, fun r h => absurd h (Nat.not_lt_zero r), by rw [opt_nil.val]; rfl⟩
  | n + 1, C, free, h, hf => by
    have O := h.ok.resolve_left (by omega)
    have F := fJ_ok O
    obtain ⟨j, hj⟩ : ∃ j, j = fJ n C := ⟨_, rfl⟩
    rw [gB_succ, ← hj]
    rw [← hj] at F
    have hoo := wo_oo O F.lt
    obtain ⟨h1, q', hq', h2, h3⟩ := gB_asg n (wo C j) (free.eraseIdx j) hoo (by rw [List.length_eraseIdx_of_lt (by have := F.lt; omega)]; omega)
    refine ⟨by simp [h1], _, asg_cons F.lt hq', fun r hr => ?_, ?_⟩
    · cases r with
      | zero => simp; rw [lF_get (l := free) (i := j) (by have := F.lt; omega)]
      | succ r =>
        have e := h2 r (by omega)
        rw [List.getElem?_eraseIdx] at e
        show (gB n (wo C j) (free.eraseIdx j))[r]? = free[skp j (q' r)]?
        rw [e]
        unfold skp
        split <;> rfl
    · rw [aW_cons (j := j) O (q' := q') rfl (fun r _ => rfl), h3]; exact F.eq
structure AsgI (n : Nat) (g : Nat → Int) : Prop where
  lt : ∀ r, r < n → ∃ j : Nat, j < n ∧ g r = j
  inj : ∀ r s, r < n → s < n → g r = g s → r = s
theorem AsgI.asg {n : Nat} {g : Nat → Int} (h : AsgI n g) : Asg n fun r => (g r).toNat := by
  refine ⟨fun r hr => ?_, fun r s hr hs e => ?_⟩
  · obtain ⟨j, h1, h2⟩ := h.lt r hr
    show (g r).toNat < n
    rw [h2]; omega
  · obtain ⟨j, h1, h2⟩ := h.lt r hr
    obtain ⟨k, h3, h4⟩ := h.lt s hs
    have e : (g r).toNat = (g s).toNat := e
    exact h.inj r s hr hs (by rw [h2, h4] at e ⊢; omega)
theorem AsgI.swap {n : Nat} {g : Nat → Int} (h : AsgI n g) {a b : Nat} (ha : a < n) (hb : b < n) : AsgI n (upf (upf g a (g b)) b (g a)) := by
  have val : ∀ r, upf (upf g a (g b)) b (g a) r = g (if r = b then a else if r = a then b else r) := fun r => by
    unfold upf
    by_cases e : r = b
    · simp [e]
    · by_cases e2 : r = a
      · by_cases ab : a = b
        · simp [e2, ab]
        · simp [e2, ab]
      · simp [e, e2]
  have lt : ∀ r, r < n → (if r = b then a else if r = a then b else r) < n := fun r hr => by split <;> first | exact ha | (split <;> first | exact hb | exact hr)
  refine ⟨fun r hr => by rw [val]; exact h.lt _ (lt r hr), fun r s hr hs e => ?_⟩
  rw [val, val] at e
  have := h.inj _ _ (lt r hr) (lt s hs) e
  split at this <;> split at this <;> (try split at this) <;> (try split at this) <;> omega
theorem prices_yes {C : List (List Int)} {n : Nat} {u v p : Nat → Int} (O : OffOk C n) (B : BestIs n (cF C) u v p) (w : Int) : prB C (aL n u) (aL n v) w = decide (w = optV n (cF C)) := by
  have hg : ∀ f i, i < n → lF (aL n f) i = f i := fun f i hi => by unfold lF aL; simp [hi]
  have hs : smF (fun i => lF (aL n u) i + lF (aL n v) i) C.length = optV n (cF C) := by
    rw [O.len, B.opt.val, ← smF_add]
    exact smF_congr fun i hi => by rw [hg u i hi, hg v i hi]
  by_cases e : w = optV n (cF C)
  · rw [prB_yes ⟨O.chk, by simp [O.len], by simp [O.len], fun i hi => by rw [O.len] at hi; rw [hg u i hi]; have := B.bnd.u i hi; exact ⟨by omega, by omega⟩, fun i hi => by rw [O.len] at hi; rw [hg v i hi]; have := B.bnd.v i hi; exact ⟨by omega, by omega⟩, fun i j hi hj => by rw [O.len] at hi hj; rw [hg u i hi, hg v j hj]; exact B.feas i j hi hj, by rw [hs, e]⟩]
    simp [e]
  · rw [prB_no (fun q => e (by rw [← q.sm, hs]))]
    simp [e]
theorem l_ArePricesO (C : List (List Int)) (n : Nat) (O : OffOk C n) (u v : Nat → Int) (bu bv : Nat) (H : AHeap) (hu : H bu = some (.cells (iarr n u))) (hv : H bv = some (.cells (iarr n v))) (w : Int) :
    ACalls Try.prog 16 [.sl n (partsC C), .osl bu 0 n 1, .osl bv 0 n 1, .int .i64 w] H fun r h' => r = .bool (prB C (aL n u) (aL n v) w) ∧ h' = H := by
  have n1 := O.n1
  have aLn : ∀ f, aL n f ≠ [] := fun f e => by have := congrArg List.length e; simp at this; omega
  refine Pure.lend (k := 2) (r := .bool (prB C (aL n u) (aL n v) w)) rfl ?_ ⟨rfl, rfl⟩
  have e : ([.sl n (partsC C), .osl bu 0 n 1, .osl bv 0 n 1, .int .i64 w] : List AV).map (frzF 2 H AHeap.empty) = [.sl C.length (partsC C), intL (aL n u), intL (aL n v), .int .i64 w] := by
    simp only [List.map_cons, List.map_nil, frz_int]
    have f1 := frz_ownI (o := some bu) (l := aL n u) (h := H) (h' := AHeap.empty) (by simp [aLn]) (fun b e => by cases e; exact ⟨by rw [aL_iarr]; exact hu, by simp⟩)
    have f2 := frz_ownI (o := some bv) (l := aL n v) (h := H) (h' := AHeap.empty) (by simp [aLn]) (fun b e => by cases e; exact ⟨by rw [aL_iarr]; exact hv, by simp⟩)
    simp only [ownV_some, aL_length] at f1 f2
    rw [f1, f2, frz_sl, map_frozen partsC_frozen, O.len]
  rw [e]
  exact w_ArePrices C (by rw [O.len]; omega) (fun r hr => by rw [O.rows r hr]; omega) _ _ (by simp; omega) (by simp; omega) w
end Go.Proofs
