/-
  Ring: the judge's good and its moves.
-/
import Derived.Test.YtobdaaoefbgilaaRgJ1
set_option linter.unusedSimpArgs false
set_option linter.unusedVariables false
set_option linter.unusedSectionVars false
namespace Go.Proofs
open Go Go.AH
set_option maxRecDepth 10000
set_option maxHeartbeats 4000000

section
variable {α γ : Type} {step : γ → α → γ} {go : γ → Bool}
theorem runIt_on : ∀ (A B : List α) (g : γ), go (runIt step go g A) = true → runIt step go g (A ++ B) = runIt step go (runIt step go g A) B
  | [], B, g, _ => rfl
  | a :: A, B, g, h => by
    simp only [List.cons_append, runIt] at h ⊢
    by_cases h1 : go (step g a) = true
    · rw [if_pos h1] at h; simp only [if_pos h1]; exact runIt_on A B _ h
    · rw [if_neg h1] at h; exact absurd h h1
theorem runIt_off : ∀ (A B : List α) (g : γ), go g = true → go (runIt step go g A) = false → runIt step go g (A ++ B) = runIt step go g A
  | [], B, g, hg, h => by simp [runIt, hg] at h
  | a :: A, B, g, hg, h => by
    simp only [List.cons_append, runIt] at h ⊢
    by_cases h1 : go (step g a) = true
    · rw [if_pos h1] at h; simp only [if_pos h1]; exact runIt_off A B _ h1 h
    · rw [if_neg h1, if_neg h1]
theorem runIt_go : ∀ (A : List α) (g : γ), go (runIt step go g A) = true → runIt step go g A = A.foldl step g
  | [], g, _ => rfl
  | a :: A, g, h => by
    simp only [runIt] at h ⊢
    by_cases h1 : go (step g a) = true
    · rw [if_pos h1] at h ⊢; exact runIt_go A _ h
    · rw [if_neg h1] at h; exact absurd h h1
/-- One item more. -/
theorem runIt_snoc {A : List α} {a : α} {g : γ} (h : go (runIt step go g A) = true) : runIt step go g (A ++ [a]) = step (runIt step go g A) a := by
  rw [runIt_on A [a] g h]
  simp only [runIt]
  split <;> rfl
end

/-- A block behind a slot's pointer is given up. -/
theorem turnA_ptr {K : AF → AHeap → Prop} {t : AF} {h : AHeap} (j b : Nat) (cs : List AV) (hj : t j = .ptr b 0) (hb : Fresh h b) (q : K (t.put j (.fptr cs)) h) : turnA K t (h.upd b (.cells cs)) := by
  refine turnA_frz 1 h (t.put j (.fptr cs)) (Drop.new (Drop.refl _) hb) (fun i => ?_) q
  by_cases e : i = j
  · subst e
    right
    rw [hj, frz_ptr hb, cellsAt_upd, if_pos rfl]
    simp only [List.drop_zero, AF.put, if_true]
    congr 1
    exact (List.map_id cs).symm.trans (List.map_congr_left fun x _ => rfl)
  · left
    simp [AF.put, e]
theorem turnA_slotN {K : AF → AHeap → Prop} {t : AF} {h : AHeap} (j b : Nat) (l : List Nat) (hj : t j = .osl b 0 l.length 1) (hb : Fresh h b) (q : K (t.put j (natsA l)) h) : turnA K t (h.upd b (.cells (l.map fun x : Nat => AV.int .i64 (x : Int)))) := by
  have e : (l.map fun x : Nat => AV.int .i64 (x : Int)) = (l.map fun x : Nat => (x : Int)).map (AV.int .i64) := by simp
  rw [e]
  refine turnA_slot j b (l.map fun x : Nat => (x : Int)) (by simpa using hj) hb ?_
  rw [← nats_ints]; exact q
theorem lenA_listA {h : AHeap} (l : List Nat) : lenA Try.prog h 25 (listA l) = some (.int .i64 (l.length : Int)) := by
  unfold listA
  split
  · next e => subst e; simp
  · simp [natsA]
theorem readyL_get {r : Rul} {n k : Nat} (h : k < (readyL r n).length) : (readyL r n)[k] = listA (readyF r (ofF r.c r.m k)) := by simp [readyL]
def goodF (r : Rul) (n : Nat) : Bool := decide ((readyF r (ofF r.c r.m n)).length = 1)

theorem w_good (r : Rul) (hr : r.ok) (joint : Bool) (b : Nat) (h : AHeap) (hj : JAt r joint b h) (n : Nat) (hn : n < r.size) : ACalls Try.prog 67 [.ptr b 0, .int .i64 n] h fun a h' => a = .bool (goodF r n) ∧ h' = h := by
  refine acalls_of Try.func67 rfl Try.call67 (by kernel_rfl) (by show _ ≤ (14 : Nat); simp) ?_
  have hj' := hj
  unfold JAt jCells at hj'
  have hl : n < (readyL r r.size).length := by simpa using hn
  have hg := readyL_get hl
  simp [hj', hn, hg, -lenA, lenA_listA]
  refine finA_self ⟨?_, rfl⟩
  unfold goodF
  congr 2
  exact propext ⟨fun e => by omega, fun e => by omega⟩

/-- The value that the moves of a configuration are told by. -/
def mvFn (joint : Bool) (b n : Nat) : AV := .fn (.func (if joint = true then 83 else 82)) [] [.fptr [.ptr b 0], .fptr [.int .i64 n]]
theorem w_moves (joint : Bool) (b : Nat) (h : AHeap) (hb : h b ≠ none) (n : Nat) : ACallV Try.prog (jMoves joint b) [.int .i64 n] h fun a h' => a = mvFn joint b n ∧ h' = h := by
  unfold jMoves
  have fz : ∀ (c2 c3 : Nat) (f : Fn), Fresh h c2 → Fresh h c3 → ¬ c3 = c2 → frzF 2 ((h.upd c2 (.cells [.ptr b 0])).upd c3 (.cells [.int .i64 n])) h (.fn f [] [.ptr c2 0, .ptr c3 0]) = .fn f [] [.fptr [.ptr b 0], .fptr [.int .i64 n]] := by
    intro c2 c3 f f2 f3 hne
    have hne' : ¬ c2 = c3 := fun e => hne e.symm
    rw [frz_fn]
    simp only [List.map_nil, List.map_cons]
    rw [frz_ptr f2, frz_ptr f3]
    simp [hne', hb]
  have dr : ∀ (c2 c3 : Nat), Fresh h c2 → Fresh h c3 → Drop ((h.upd c2 (.cells [.ptr b 0])).upd c3 (.cells [.int .i64 n])) h := fun c2 c3 f2 f3 => Drop.new (Drop.new (Drop.refl _) f2) f3
  cases joint with
  | false =>
    refine acalls_of Try.func73 rfl Try.call73 (by kernel_rfl) (by show _ ≤ (6 : Nat); simp) ?_
    simp
    intro c2 f2
    simp
    intro c3 f3
    obtain ⟨n1, n2, f3'⟩ : ¬ c3 = c2 ∧ ¬ c2 = c3 ∧ Fresh h c3 := by simpa [f2] using f3
    simp
    refine finA_to 2 h (dr c2 c3 f2 f3') ⟨?_, rfl⟩
    rw [fz c2 c3 _ f2 f3' n1]; rfl
  | true =>
    refine acalls_of Try.func74 rfl Try.call74 (by kernel_rfl) (by show _ ≤ (6 : Nat); simp) ?_
    simp
    intro c2 f2
    simp
    intro c3 f3
    obtain ⟨n1, n2, f3'⟩ : ¬ c3 = c2 ∧ ¬ c2 = c3 ∧ Fresh h c3 := by simpa [f2] using f3
    simp
    refine finA_to 2 h (dr c2 c3 f2 f3') ⟨?_, rfl⟩
    rw [fz c2 c3 _ f2 f3' n1]; rfl

theorem readyF_ok0 {r : Rul} {l : List Nat} : ∀ i ∈ readyF r l, i < r.m ∧ 0 ≤ takesF r l i := by
  intro i hi
  have := List.mem_filter.1 hi
  exact ⟨List.mem_range.1 this.1, by simpa using this.2⟩
theorem readyF_len0 (r : Rul) (l : List Nat) : (readyF r l).length ≤ r.m := by
  unfold readyF
  exact Nat.le_trans (List.length_filter_le _ _) (by simp)
/-- Where steps lead, and joint steps. -/
def succF (r : Rul) (n : Nat) : List Nat := (readyF r (ofF r.c r.m n)).map fun i => numF r.c (stepF r (ofF r.c r.m n) [i])
end Go.Proofs
