/-
  Pair: what the best assignment is worth, walked; an offer without a person and a post.
-/
import Derived.Test.YtkdhgablioljnaaPbK
import Derived.Test.YtkdhgablioljnaaPbJ
import Derived.Test.YtkdhgablioljnaaPaDel
set_option linter.unusedSimpArgs false
set_option linter.unusedVariables false
set_option linter.unusedSectionVars false
namespace Go.Proofs
open Go Go.AH
set_option maxRecDepth 10000
set_option maxHeartbeats 8000000

theorem smF_bound {f : Nat → Int} {B : Int} (hB : 0 ≤ B) : ∀ {k : Nat}, (∀ i, i < k → -B ≤ f i ∧ f i ≤ B) → -(B * k) ≤ smF f k ∧ smF f k ≤ B * k
  | 0, _ => by simp [smF]
  | k + 1, h => by
    have ih := smF_bound hB (k := k) (fun i hi => h i (by omega))
    have := h k (by omega)
    simp only [smF]
    have e : B * ((k + 1 : Nat) : Int) = B * (k : Int) + B := by rw [Int.natCast_add, Int.mul_add]; simp
    rw [e]
    omega
theorem w_worth (C : List (List Int)) (n : Nat) (O : OffOk C n) (b : Nat) (H : AHeap) (p : Nat → Int) (hb : H b = some (.cells (iarr n p))) (hp : ∀ r, r < n → ∃ j : Nat, j < n ∧ p r = j) :
    ACalls Try.prog 80 [.sl n (partsC C), .osl b 0 n 1] H fun r h' => r = .int .i64 (aW (cF C) (fun r => (p r).toNat) n) ∧ h' = H := by
  refine acalls_of Try.func80 rfl Try.call80 (by kernel_rfl) (by show _ ≤ (26 : Nat); simp) ?_
  have n1 := O.n1
  have hpl : (partsC C).length = n := by simp [partsC, O.len]
  have db : ∀ off, cellsAt H b off = some ((iarr n p).drop off) := fun off => cellsAt_eq hb
  obtain ⟨S, hS⟩ : ∃ S : Nat → Int, S = smF (fun r => cF C r (p r).toNat) := ⟨_, rfl⟩
  have S0 : S 0 = 0 := by rw [hS]; rfl
  have Ss : ∀ k, S (k + 1) = S k + cF C k (p k).toNat := fun k => by rw [hS]; rfl
  have Sb : ∀ k, k ≤ n → -(1000000 * (k : Int)) ≤ S k ∧ S k ≤ 1000000 * k := fun k hk => by
    rw [hS]
    refine smF_bound (by omega) fun i hi => ?_
    obtain ⟨j, h1, h2⟩ := hp i (by omega)
    rw [h2, Int.toNat_natCast]
    exact O.c i j (by omega) h1
  unfold aW
  rw [← hS]
  simp
  refine awp_loop_g (γ := Nat) (fun i t h => (i ≤ n) ∧ t 0 = .sl n (partsC C) ∧ t 5 = .int .i64 (S i) ∧ t 8 = .osl b 0 n 1 ∧ t 9 = .int .i64 n ∧ t 10 = .int .i64 i ∧ h = H) (fun i => n - i) (0) (turnA_self (by simp [S0])) ?_
  rintro i t hx ⟨hi, h0, h5, h8, h9, h10, ex⟩
  rw [ex]
  clear ex
  by_cases hin : i < n
  · have hinI : (i : Int) < (n : Int) := by omega
    have hwi : IntKind.i64.wrap ((i : Int) + 1) = (i : Int) + 1 := wrap_i64 (by omega) (by omega)
    obtain ⟨j, hjn, hpj⟩ := hp i hin
    have hjnI : (j : Int) < (n : Int) := by omega
    obtain ⟨row, hr1, hr2, hr3⟩ := O.row hin
    have hat := partsC_row hr1
    have hgc := intC_at (hr3 j hjn)
    have hjl : j < row.length := by omega
    have sbi := Sb i hi
    have cb := O.c i j hin hjn
    have ssi := Ss i
    rw [hpj, Int.toNat_natCast] at ssi
    have w1 : IntKind.i64.wrap (S i + cF C i j) = S (i + 1) := by rw [ssi]; exact wrap_i64 (by omega) (by omega)
    simp [h0, h5, h8, h9, h10, hin, hinI, db, iarr_dr hin, hpj, hat, hpl, hr2, hjn, hjnI, hjl, hgc, w1]
    exact turnA_self ⟨i + 1, by omega, by omega, by simp [h0, h5, h8, h9, h10, hwi]⟩
  · obtain rfl : i = n := by omega
    simp [h0, h5, h8, h9, h10]
    exact finA_self ⟨rfl, rfl⟩
theorem w_most (C : List (List Int)) (n : Nat) (O : OffOk C n) : Pure Try.prog 55 [.sl n (partsC C)] (.int .i64 (optV n (cF C))) := by
  refine pure_of (acalls_of Try.func55 rfl Try.call55 (by kernel_rfl) (by show _ ≤ (18 : Nat); simp) ?_)
  have n1 := O.n1
  have hn0 : ¬ n = 0 := by omega
  simp [hn0]
  refine ACalls.mono (w_best C n O) ?_
  rintro _ _ ⟨bu, bv, bp, u, v, p, h1, h2, h3, hB, rfl, rfl⟩
  simp
  refine (w_worth C n O bp _ p AHeap.upd_same (fun r hr => by obtain ⟨j, q1, q2, _⟩ := hB.post r hr; exact ⟨j, q1, q2⟩)).use ?_
  simp
  refine finA_drop ?_
  rw [hB.opt.val, ← hB.asg.2]
theorem w_most0 : Pure Try.prog 55 [.nilsl] (.int .i64 0) := by
  refine pure_of (acalls_of Try.func55 rfl Try.call55 (by kernel_rfl) (by show _ ≤ (18 : Nat); simp) ?_)
  simp
  exact finA_drop rfl
end Go.Proofs
