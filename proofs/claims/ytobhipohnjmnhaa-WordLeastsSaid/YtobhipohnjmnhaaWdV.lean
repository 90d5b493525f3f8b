import Derived.Test.YtobhipohnjmnhaaWdS
import Derived.Test.YtobhipohnjmnhaaWdD
set_option linter.unusedSimpArgs false
set_option linter.unusedVariables false
set_option linter.unusedSectionVars false
/-! # word: Words. -/
set_option maxRecDepth 100000
set_option maxHeartbeats 4000000
namespace Go.Proofs
open Go Go.AH

theorem w_accepted (m : Dfa) : Pure Try.prog 68 [m.av] (.fn (.func 119) [] [.fptr [.int .i64 (m.k : Int), nrowsA m.next, boolsA m.good]]) := by
  refine pure_of (acalls_of Try.func68 rfl Try.call68 (by kernel_rfl) (by show _ ≤ (4 : Nat); simp) ?_)
  simp [Dfa.av]
  intro b1 hb1
  simp
  refine finA_all 2 ?_
  simp

/-! ### How far one must look -/
def uptoL (m : Dfa) (T : Nat) : List (List UInt8) := (List.range T).flatMap (lenL m)
theorem uptoL_succ (m : Dfa) (T : Nat) : uptoL m (T + 1) = uptoL m T ++ lenL m T := by simp [uptoL, List.range_succ]
def tF (m : Dfa) (most : Nat) : Nat → Nat → Nat
  | 0, T => T
  | f + 1, T => if m.next.length < noneA m T ∨ most ≤ (uptoL m T).length then T else tF m most f (T + 1)
def tEnd (m : Dfa) (most : Nat) : Nat := tF m most (most * (m.next.length + 1)) 0
def wordsF (m : Dfa) (most : Nat) : List (List UInt8) := (uptoL m (tEnd m most)).take most

theorem spellL_ne (m : Dfa) (hm : m.wf) : ∀ (n s : Nat) (r : List UInt8), s < m.next.length → (canR m n).getD s false = true → spellL m (canR m) n s r ≠ []
  | 0, s, r, hs, h => by simp [spellL]
  | n + 1, s, r, hs, h => by
    simp only [canR] at h
    have hrow : (m.next.getD s []).length = m.k := by rw [List.getD_eq_getElem?_getD, List.getElem?_eq_getElem hs]; exact hm.rl _ (List.getElem_mem hs)
    have hlt : ∀ t ∈ m.next.getD s [], t < m.next.length := by
      intro t ht; rw [List.getD_eq_getElem?_getD, List.getElem?_eq_getElem hs] at ht; exact hm.lt _ (List.getElem_mem hs) t ht
    rw [List.getD_eq_getElem?_getD, List.getElem?_map, List.getElem?_range hs] at h
    simp only [Option.map_some, Option.getD_some, List.any_eq_true] at h
    obtain ⟨t, ht, hc⟩ := h
    obtain ⟨i, hi, hti⟩ := List.mem_iff_getElem.1 ht
    rw [hrow] at hi
    have hgd : (m.next.getD s []).getD i 0 = t := by rw [List.getD_eq_getElem?_getD, List.getElem?_eq_getElem (by omega)]; exact hti
    intro e
    simp only [spellL, List.flatMap_eq_nil_iff] at e
    have := e i (List.mem_range.2 hi)
    rw [hgd, hc, if_pos rfl] at this
    exact spellL_ne m hm n t _ (hlt t ht) hc this

theorem pot (m : Dfa) (hm : m.wf) : ∀ T, (∀ n, n < T → noneA m n ≤ m.next.length) → T ≤ (uptoL m T).length * (m.next.length + 1) + noneA m T
  | 0, _ => by simp
  | T + 1, h => by
    have ih := pot m hm T fun n hn => h n (by omega)
    have hT := h T (by omega)
    rw [uptoL_succ, List.length_append, noneA]
    cases hc : (canR m T).getD 0 false with
    | true =>
      have h1 : lenL m T ≠ [] := by rw [lenL, hc, if_pos rfl]; exact spellL_ne m hm T 0 [] (by have := hm.n1; omega) hc
      have h2 : 1 ≤ (lenL m T).length := by rcases hl : lenL m T with _ | ⟨a, l⟩; exact absurd hl h1; simp
      simp only [if_pos]
      have h3 : ((uptoL m T).length + 1) * (m.next.length + 1) ≤ ((uptoL m T).length + (lenL m T).length) * (m.next.length + 1) := Nat.mul_le_mul_right _ (by omega)
      rw [Nat.add_mul] at h3
      omega
    | false =>
      have h3 : (uptoL m T).length * (m.next.length + 1) ≤ ((uptoL m T).length + (lenL m T).length) * (m.next.length + 1) := Nat.mul_le_mul_right _ (by omega)
      simp only [Bool.false_eq_true, if_false]
      omega

theorem tF_spec (m : Dfa) (hm : m.wf) (most : Nat) : ∀ (f T : Nat), (∀ n, n < T → noneA m n ≤ m.next.length ∧ (uptoL m n).length < most) → most * (m.next.length + 1) ≤ f + T →
    (∀ n, n < tF m most f T → noneA m n ≤ m.next.length ∧ (uptoL m n).length < most) ∧ (m.next.length < noneA m (tF m most f T) ∨ most ≤ (uptoL m (tF m most f T)).length) ∧ tF m most f T ≤ f + T
  | 0, T, h, hf => by
    refine ⟨h, ?_, by simp [tF]⟩
    simp only [tF]
    have hp := pot m hm T fun n hn => (h n hn).1
    rcases Nat.lt_or_ge (uptoL m T).length most with q | q
    · left
      have h3 : ((uptoL m T).length + 1) * (m.next.length + 1) ≤ most * (m.next.length + 1) := Nat.mul_le_mul_right _ (by omega)
      rw [Nat.add_mul] at h3
      omega
    · exact .inr q
  | f + 1, T, h, hf => by
    simp only [tF]
    split
    · next q => exact ⟨h, q, by omega⟩
    · next q =>
      simp only [not_or, Nat.not_lt, Nat.not_le] at q
      have := tF_spec m hm most f (T + 1) (fun n hn => by
        rcases Nat.lt_or_ge n T with x | x
        · exact h n x
        · obtain rfl : n = T := by omega
          exact q) (by omega)
      exact ⟨this.1, this.2.1, by have := this.2.2; omega⟩
theorem tEnd_spec (m : Dfa) (hm : m.wf) (most : Nat) : (∀ n, n < tEnd m most → noneA m n ≤ m.next.length ∧ (uptoL m n).length < most) ∧ (m.next.length < noneA m (tEnd m most) ∨ most ≤ (uptoL m (tEnd m most)).length) ∧ tEnd m most ≤ most * (m.next.length + 1) := by
  have := tF_spec m hm most (most * (m.next.length + 1)) 0 (by intro n hn; omega) (by omega)
  simpa [tEnd] using this

theorem runIt_take {α : Type} (N : Nat) (hN : 0 < N) : ∀ (L g : List α), g.length < N → runIt (fun g x => g ++ [x]) (fun g => decide (g.length ≠ N)) g L = (g ++ L).take N
  | [], g, h => by simp [runIt, List.take_of_length_le (Nat.le_of_lt h)]
  | x :: L, g, h => by
    simp only [runIt]
    by_cases q : g.length + 1 = N
    · have : (decide ((g ++ [x]).length ≠ N)) = false := by simp [q]
      rw [if_neg (by simp [q])]
      rw [show g ++ x :: L = (g ++ [x]) ++ L by simp, List.take_append_of_le_length (by simp; omega), List.take_of_length_le (by simp; omega)]
    · rw [if_pos (by simp [q]), runIt_take N hN L (g ++ [x]) (by simp; omega)]
      simp

def ownS (l : List (List UInt8)) : AV := if l = [] then .nilsl else strsA l
theorem w_Words (m : Dfa) (hm : m.ok) (most : Int) (h1 : 1 ≤ most) (h2 : most ≤ 1000) : Pure Try.prog 20 [m.av, .int .i64 most] (.tup [ownS (wordsF (leastF m) most.toNat), .int .i64 0]) := by
  refine pure_of (acalls_of Try.func20 rfl Try.call20 (by kernel_rfl) (by show _ ≤ (34 : Nat); simp) ?_)
  obtain ⟨N, rfl⟩ : ∃ N : Nat, most = N := ⟨most.toNat, by omega⟩
  have c1 := w_check m hm
  have c2 := w_of m
  have c3 := w_leastP hm.wf
  have hl := least_wf hm.wf
  have hl64 : (leastF m).next.length ≤ 64 := Nat.le_trans (least_n hm.wf) hm.n64
  have c4 := w_accepted (leastF m)
  have e1 : ¬ (N : Int) < 1 := by omega
  have e2 : ¬ (1000 : Int) < N := by omega
  simp only [Dfa.av] at c1 c2 c3 c4 ⊢
  simp
  intro b2 hb2
  simp
  intro b3 hb3
  simp at hb3
  simp [hb3]
  refine c1.use ?_
  simp [e1, e2, hb3]
  intro b7 hb7
  simp at hb7
  simp [hb7, hb3]
  refine c2.use ?_
  simp
  refine c3.use ?_
  simp
  refine c4.use ?_
  simp
  obtain ⟨t1, t2, t3⟩ := tEnd_spec (leastF m) hl N
  have hW : wordsF (leastF m) N = (uptoL (leastF m) (tEnd (leastF m) N)).take N := rfl
  generalize tEnd (leastF m) N = T at t1 t2 t3 hW
  have hT : T ≤ 10000000 := by
    have : N * ((leastF m).next.length + 1) ≤ 1000 * 65 := Nat.mul_le_mul (by omega) (by omega)
    omega
  have hr := runIt_take N (by omega) (uptoL (leastF m) T) ([] : List (List UInt8)) (by simp; omega)
  have hgo : (fun g : List (List UInt8) => ((if g.length = N then some (Exit.exit 0) else none : Option Exit)).isNone) = fun g => decide (g.length ≠ N) := by
    funext g; by_cases q : g.length = N <;> simp [q]
  refine awp_iter (L := uptoL (leastF m) T) (by simp) (it_accepted (leastF m) hl T hT fun n hn => (t1 n hn).1) (fun (g : List (List UInt8)) h => g.length ≤ N ∧ ∃ o : Option Nat, (o = none → g = []) ∧ (∀ b, o = some b → ¬ g = [] ∧ Fresh AHeap.empty b ∧ ¬ b = b2 ∧ ¬ b2 = b ∧ ¬ b = b3 ∧ ¬ b3 = b ∧ ¬ b = b7 ∧ ¬ b7 = b) ∧
      h = (((AHeap.empty.upd b2 (.cells [.int .i64 (m.k : Int), nrowsA m.next, boolsA m.good])).upd b3 (.cells [.int .i64 N])).upd b7 (.cells [ownV o g.length 1])).updO o (g.map .str))
    (fun g x => g ++ [x]) (fun g => if g.length = N then some (Exit.exit 0) else none) [] (by simp; omega) ⟨by simp, none, by simp⟩ (by kernel_rfl) (by kernel_rfl) (by simp) (by intro a _; simp) ?_ ?_ ?_ ?_
  · rw [hgo, hr]
    rcases t2 with q | q
    · left; simp [q]
    · right; simp; omega
  · rintro l i g w h ha hgi hj ⟨hg, o, ho, hf, rfl⟩
    have hgN : g.length ≠ N := by intro q; simp [q] at hj
    have hgN' : (g.length : Int) + 1 = N ↔ g.length + 1 = N := by omega
    rcases o with _ | b
    · obtain rfl := ho rfl
      simp [putsA, hb7, hb3]
      intro b2' hb2'
      simp at hb2'
      simp [hb2', hb7, hb3]
      intro b3' hb3'
      simp at hb3'
      simp [hb2', hb3', hb7, hb3]
      have hdr : ∀ h2, h2 = (((((AHeap.empty.upd b2 (.cells [.int .i64 (m.k : Int), nrowsA m.next, boolsA m.good])).upd b3 (.cells [.int .i64 N])).upd b7 (.cells [.osl b3' 0 1 1])).upd b2' (.cells [.str w])).upd b3' (.cells [.str w])) → Drop h2 ((((AHeap.empty.upd b2 (.cells [.int .i64 (m.k : Int), nrowsA m.next, boolsA m.good])).upd b3 (.cells [.int .i64 N])).upd b7 (.cells [.osl b3' 0 1 1])).upd b3' (.cells ([.str w]))) := by
        rintro h2 rfl
        refine Drop.both (Drop.new (Drop.refl _) ?_)
        simp [hb2']
      refine condA_case ?_ ?_
      · intro q
        simp at q
        have q' : N = 1 := by omega
        subst q'
        simp
        exact ⟨_, hdr _ rfl, some b3', by simp, by simp [hb3']⟩
      · intro q
        simp at q
        have q' : ¬ 1 = N := by omega
        simp [q']
        exact ⟨_, hdr _ rfl, by omega, some b3', by simp, by simp [hb3']⟩
    · have hf1 := hf b rfl
      simp [putsA, hb7, hb3, hf1]
      intro b2' hb2'
      simp at hb2'
      simp [hb2', hb7, hb3, hf1]
      refine ⟨by omega, ?_⟩
      intro b3' hb3'
      simp at hb3'
      simp [hb2', hb3', hb7, hb3, hf1]
      have hdr : ∀ n h2, h2 = (((((AHeap.empty.upd b2 (.cells [.int .i64 (m.k : Int), nrowsA m.next, boolsA m.good])).upd b3 (.cells [.int .i64 N])).upd b7 (.cells [.osl b3' 0 n 1])).upd b2' (.cells [.str w])).upd b3' (.cells (g.map .str ++ [.str w]))) → Drop h2 ((((AHeap.empty.upd b2 (.cells [.int .i64 (m.k : Int), nrowsA m.next, boolsA m.good])).upd b3 (.cells [.int .i64 N])).upd b7 (.cells [.osl b3' 0 n 1])).upd b3' (.cells (g.map .str ++ [.str w]))) := by
        rintro n h2 rfl
        refine Drop.both (Drop.new (Drop.refl _) ?_)
        simp [hb2']
      refine condA_case ?_ ?_
      · intro q
        simp at q
        have q' : g.length + 1 = N := by omega
        simp [q']
        exact ⟨_, hdr _ _ rfl, some b3', by simp, by simp [hb3']⟩
      · intro q
        simp at q
        have q' : ¬ g.length + 1 = N := by omega
        simp [q']
        exact ⟨_, hdr _ _ rfl, by omega, some b3', by simp, by simp [hb3']⟩
  · intro g e he
    by_cases q : g.length = N
    · rw [if_pos q] at he; cases he; exact .inr ⟨_, rfl⟩
    · rw [if_neg q] at he; cases he
  · rintro h' ⟨hg, o, ho, hf, rfl⟩
    rw [hgo, hr] at hg ho ⊢
    simp only [List.nil_append, ← hW] at hg ho ⊢
    have hend : blockA = blockA := rfl
    by_cases q : (wordsF (leastF m) N).length = N
    all_goals
      simp [q]
      rcases o with _ | b
      · have e := ho rfl
        simp [e, hb7, ownS]
        exact finA_self rfl
      · have hf1 := hf b rfl
        have hne : ¬ wordsF (leastF m) N = [] := by have := hf1.1; rw [hgo, hr] at this; simpa only [List.nil_append, ← hW] using this
        simp [hb7, hf1, ownS, hne]
        refine finA_all 2 ?_
        simp [hf1, strsA, q, hg, List.take_of_length_le]
end Go.Proofs
