/-
  Ring: IsRank.
-/
import Derived.Test.YtobdaaoefbgilaaRgJ4
set_option linter.unusedSimpArgs false
set_option linter.unusedVariables false
set_option linter.unusedSectionVars false
namespace Go.Proofs
open Go Go.AH
set_option maxRecDepth 10000
set_option maxHeartbeats 4000000

def minK (l : List Int) : Nat → Int
  | 0 => l.getD 0 0
  | k + 1 => if l.getD (k + 1) 0 < minK l k then l.getD (k + 1) 0 else minK l k
theorem minK_neg (l : List Int) : ∀ k, minK l k < 0 ↔ ∃ j, j ≤ k ∧ l.getD j 0 < 0
  | 0 => ⟨fun h => ⟨0, Nat.le_refl _, h⟩, fun ⟨j, hj, h⟩ => by
    have : j = 0 := by omega
    subst this; exact h⟩
  | k + 1 => by
    have ih := minK_neg l k
    unfold minK
    constructor
    · intro h
      split at h
      · exact ⟨k + 1, Nat.le_refl _, h⟩
      · obtain ⟨j, h1, h2⟩ := ih.1 h
        exact ⟨j, by omega, h2⟩
    · rintro ⟨j, h1, h2⟩
      split
      · next q =>
        by_cases e : j = k + 1
        · subst e; exact h2
        · have := ih.2 ⟨j, by omega, h2⟩; omega
      · next q =>
        by_cases e : j = k + 1
        · subst e; omega
        · exact ih.2 ⟨j, by omega, h2⟩
theorem w_Min (l : List Int) (hl : l.length ≤ 1000000) (hne : ¬ l = []) : Pure Try.prog 66 [intsA l] (.int .i64 (minK l (l.length - 1))) := by
  refine pure_of (acalls_of Try.func66 rfl Try.call66 (by kernel_rfl) (by show _ ≤ (25 : Nat); simp) ?_)
  have hp : 0 < l.length := List.length_pos_iff.2 hne
  have h1 : ¬ (l.length : Int) < 1 := by omega
  have h0 : l.getD 0 0 = l[0] := by simp [hp]
  have g1 : ¬ l.length < 1 := by omega
  simp [intsA, h1, g1, hp, hne]
  refine awp_loop_g (γ := Nat) (fun i t h => (1 ≤ i ∧ i ≤ l.length) ∧ t 0 = .sl l.length (l.map (.int .i64)) ∧ t 3 = .int .i64 (minK l (i - 1)) ∧ t 4 = .int .i64 i) (fun i => l.length - i) (1) (turnA_self (by simp [minK, hp]; omega)) ?_
  rintro i t h ⟨hi, h0, h3, h4⟩
  obtain ⟨hi1, hi2⟩ := hi
  by_cases hlt : i < l.length
  · have hltI : (i : Int) < (l.length : Int) := by omega
    have hwi : IntKind.i64.wrap ((i : Int) + 1) = (i : Int) + 1 := wrap_i64 (by omega) (by omega)
    have hms : minK l i = if l.getD i 0 < minK l (i - 1) then l.getD i 0 else minK l (i - 1) := by
      obtain ⟨k, rfl⟩ : ∃ k, i = k + 1 := ⟨i - 1, by omega⟩
      rfl
    have hgd : l.getD i 0 = l[i] := by simp [hlt]
    rw [hgd] at hms
    simp [h0, h3, h4, hlt, hltI]
    exact turnA_self ⟨i + 1, by omega, by omega, by simp [h0, h3, h4, hwi, hms]⟩
  · have hie : i = l.length := by omega
    have hltI : ¬ (i : Int) < (l.length : Int) := by omega
    simp [h0, h3, h4, hlt, hltI, hie]
    exact finA_drop rfl

theorem newJudge_at (r : Rul) (hr : r.ok) (joint : Bool) (H : AHeap) : ACalls Try.prog 62 [r.av, .bool joint] H fun a h => ∃ b, a = .ptr b 0 ∧ h = H.upd b (.cells (jCells r joint b)) ∧ Fresh H b := by
  have c2 := ACalls.frame (w_newJudge r hr joint) (h2 := H) Disj.empty
  rw [AHeap.empty_un] at c2
  refine ACalls.mono c2 ?_
  rintro a h' ⟨h1, rfl, D, b, rfl, rfl⟩
  refine ⟨b, rfl, ?_, ?_⟩
  · apply funext
    intro x
    show (AHeap.empty.upd b _).un H x = _
    rw [AHeap.un_at]
    by_cases q : x = b
    · subst q; rw [AHeap.upd_same]; exact AHeap.upd_same.symm
    · rw [AHeap.upd_ne q]; exact (AHeap.upd_ne q).symm
  · rcases D b with q | q
    · rw [AHeap.upd_same] at q; cases q
    · exact q
theorem JAt_new (r : Rul) (joint : Bool) (b : Nat) (H : AHeap) : JAt r joint b (H.upd b (.cells (jCells r joint b))) := by intro off; simp

@[simp] theorem listI_fit {l : List Int} : (listI l).fit = true := by unfold listI; split <;> rfl
@[simp] theorem listI_one {l : List Int} : (listI l).one = true := by unfold listI; split <;> rfl
@[simp] theorem listI_cells {l : List Int} : (listI l).cells = [listI l] := by unfold listI; split <;> rfl

theorem JAt.ne {r : Rul} {joint : Bool} {b : Nat} {h : AHeap} (e : JAt r joint b h) : h b ≠ none := by
  intro q
  have := e 0
  unfold cellsAt at this
  rw [q] at this
  cases this
/-- The numbers fall at each step. -/
def fallF (r : Rul) (A : List Int) (n : Nat) : Bool := (succF r n).all fun t => decide (A.getD t 0 < A.getD n 0)
def fallOn (r : Rul) (A : List Int) (n : Nat) : Bool := (List.range n).all fun n => goodF r n || fallF r A n
theorem fallOn_succ (r : Rul) (A : List Int) (n : Nat) : fallOn r A (n + 1) = (fallOn r A n && (goodF r n || fallF r A n)) := by
  unfold fallOn
  rw [List.range_succ, List.all_append]; simp
theorem fallOn_cut {r : Rul} {A : List Int} {n m : Nat} (hn : n < m) (h1 : goodF r n = false) (h2 : fallF r A n = false) : fallOn r A m = false := by
  unfold fallOn
  rw [List.all_eq_false]
  exact ⟨n, List.mem_range.2 hn, by rw [h1, h2]; simp⟩
/-- Are the numbers a ranking? -/
def isRankF (r : Rul) (A : List Int) : Bool := decide (A.length = r.size) && !A.any (fun x => decide (x < 0)) && fallOn r A r.size
theorem succF_lt {r : Rul} (hr : r.ok) (n : Nat) : ∀ t ∈ succF r n, t < r.size := by
  intro t ht
  obtain ⟨i, hi, rfl⟩ := List.mem_map.1 ht
  exact cfg_num hr (step_cfg hr (of_cfg hr n) (by intro i' h; simp at h; subst h; exact readyF_ok0 _ hi))
theorem foldl_and {α : Type} (p : α → Bool) : ∀ (L : List α) (g : Bool), L.foldl (fun g t => g && p t) g = (g && L.all p)
  | [], g => by simp
  | a :: L, g => by rw [List.foldl_cons, foldl_and p L]; simp [Bool.and_assoc]
theorem runIt_and {α : Type} (p : α → Bool) : ∀ (L : List α) (g : Bool), g = true → runIt (fun g t => g && p t) (fun g => g) g L = L.all p
  | [], g, h => by simp [runIt, h]
  | a :: L, g, h => by
    subst h
    simp only [runIt, Bool.true_and, List.all_cons]
    by_cases q : p a = true
    · rw [if_pos q, runIt_and p L _ q, q]; simp
    · rw [if_neg q]; simp [q]

theorem w_IsRank (r : Rul) (hr : r.ok) (A : List Int) (hA : A.length ≤ 1000000) : Pure Try.prog 33 [r.av, listI A] (.bool (isRankF r A)) := by
  refine pure_of (acalls_of Try.func33 rfl Try.call33 (by kernel_rfl) (by show _ ≤ (55 : Nat); simp) ?_)
  have q1 := hr.m2; have q2 := hr.m6; have q3 := hr.c2; have q4 := hr.c6; have q5 := hr.sz
  have cc := w_Check r hr
  have cs := w_size r.m r.c q1 q2 q3 q4 q5
  have hsp : 0 < r.size := pw_pos (by omega) _
  have hav : r.av = .agg [.int .i64 r.m, .int .i64 r.c, rowsA r.next] := rfl
  have hSz : (pw r.c r.m : Nat) = r.size := rfl
  rw [hSz] at cs
  rw [hav] at cc ⊢
  simp
  intro b2 hb2
  simp
  intro b3 hb3
  simp at hb3
  simp [hb3]
  intro b4 hb4
  simp at hb4
  simp [hb4]
  by_cases hlen : A.length = r.size
  · have hne : ¬ A = [] := fun e => by rw [e] at hlen; simp at hlen; omega
    have cm := w_Min A hA hne
    have hAl : listI A = .sl A.length (A.map (.int .i64)) := by rw [listI_ne hne]; rfl
    have cm' : AH.Pure Try.prog 66 [.sl A.length (A.map (.int .i64))] (.int .i64 (minK A (A.length - 1))) := cm
    refine awp_draw_text (by kernel_rfl) [9, 18, 23] [(.fn (.func 45) [] [], [.agg [.int .i64 r.m, .int .i64 r.c, rowsA r.next]], .int .i64 0), (.fn (.func 58) [] [], [.int .i64 r.m, .int .i64 r.c], .int .i64 (r.size : Nat)),
      (.fn (.func 66) [] [], [.sl A.length (A.map (.int .i64))], .int .i64 (minK A (A.length - 1)))] (by kernel_rfl) (by kernel_rfl) (by simp; exact ⟨PureV.of cc, PureV.of cs, PureV.of cm'⟩) ?_
    have hlenI : (A.length : Int) = (r.size : Int) := by omega
    simp [hb3, hb4, hAl, hlen, hlenI, gamGet_here, gamGet_cons]
    have hmn := minK_neg A (A.length - 1)
    rw [hlen] at hmn
    refine condA_case (fun hneg => ?_) fun hneg => ?_
    · have hF : isRankF r A = false := by
        obtain ⟨j, j1, j2⟩ := hmn.1 (by simpa using hneg)
        have hj : j < A.length := by omega
        have : A.any (fun x => decide (x < 0)) = true := List.any_eq_true.2 ⟨A[j], List.getElem_mem hj, by simpa [hj] using j2⟩
        simp [isRankF, this]
      simp [hb3, hb4]
      exact finA_drop (by rw [hF])
    · have hnn : A.any (fun x => decide (x < 0)) = false := by
        cases hc : A.any (fun x => decide (x < 0)) with
        | false => rfl
        | true =>
          obtain ⟨x, hx, hx2⟩ := List.any_eq_true.1 hc
          obtain ⟨j, hj, rfl⟩ := List.getElem_of_mem hx
          exact absurd (hmn.2 ⟨j, by omega, by simpa [hj] using hx2⟩) (by simpa using hneg)
      have hF : isRankF r A = fallOn r A r.size := by simp [isRankF, hlen, hnn]
      have cn := newJudge_at r hr false (((AHeap.empty.upd b2 (.cells [.int .i64 r.m, .int .i64 r.c, rowsA r.next])).upd b3 (.cells [listI A])).upd b4 (.cells [.bool false]))
      rw [hav, hAl, hlen] at cn
      simp [hb3, hb4]
      refine ACalls.mono cn ?_
      rintro _ _ ⟨bj, rfl, rfl, hbj⟩
      have hja := JAt_new r false bj (((AHeap.empty.upd b2 (.cells [.int .i64 r.m, .int .i64 r.c, rowsA r.next])).upd b3 (.cells [.sl r.size (A.map (.int .i64))])).upd b4 (.cells [.bool false]))
      obtain ⟨HH, hHH⟩ : ∃ HH, HH = ((((AHeap.empty.upd b2 (.cells [.int .i64 r.m, .int .i64 r.c, rowsA r.next])).upd b3 (.cells [.sl r.size (A.map (.int .i64))])).upd b4 (.cells [.bool false])).upd bj (.cells (jCells r false bj))) := ⟨_, rfl⟩
      rw [← hHH] at hja ⊢
      simp at hbj
      have g3 : ∀ off, cellsAt HH b3 off = some (([.sl r.size (A.map (.int .i64))] : List AV).drop off) := by intro off; rw [hHH]; simp [hb3, hb4, hbj]
      have g4 : ∀ off, cellsAt HH b4 off = some (([.bool false] : List AV).drop off) := by intro off; rw [hHH]; simp [hb3, hb4, hbj]
      have gj : ∀ off, cellsAt HH bj off = some ((jCells r false bj).drop off) := hja
      simp [gj, jCells]
      refine awp_loop_g (γ := Nat) (fun n t h => (n ≤ r.size) ∧ (fallOn r A n = true) ∧ t 3 = .ptr b3 0 ∧ t 4 = .ptr b4 0 ∧ t 5 = .ptr bj 0 ∧ t 31 = .int .i64 (r.size : Nat) ∧ t 32 = .int .i64 n ∧ h = HH) (fun n => r.size - n) (0) (turnA_self (by simp [fallOn])) ?_
      rintro n t hx ⟨hn, hal, h3, h4, h5, h31, h32, ex⟩
      rw [ex]
      clear ex
      by_cases hlt : n < r.size
      · have hwn : IntKind.i64.wrap ((n : Int) + 1) = (n : Int) + 1 := wrap_i64 (by omega) (by omega)
        simp [h3, h4, h5, h31, h32, hlt]
        intro b6 hb6
        have n3 := ne_fresh (g3 0) hb6
        have n4 := ne_fresh (g4 0) hb6
        have nj := ne_fresh (gj 0) hb6
        have hj6 : JAt r false bj (HH.upd b6 (.cells [.int .i64 n])) := hja.upd (by rcases hb6 with hb6; simpa [Fresh] using hb6)
        have cg := w_good r hr false bj _ hj6 n hlt
        have cm := w_moves false bj (HH.upd b6 (.cells [.int .i64 n])) hj6.ne n
        have hal1 := fallOn_succ r A n
        rw [hal, Bool.true_and] at hal1
        simp [h3, h4, h5, h31, h32]
        refine cg.use ?_
        simp [h3, h4, h5, h31, h32]
        refine condA_case (fun hgd => ?_) fun hgd => ?_
        · simp [h3, h4, h5, h31, h32]
          refine turnA_to HH (Drop.new (Drop.refl _) hb6) ⟨n + 1, by omega, by omega, by rw [hal1, hgd]; rfl, by simp [h3, h4, h5, h31, h32, hwn]⟩
        · simp [h3, h4, h5, h31, h32]
          refine awp_draw_text (by kernel_rfl) [] [] (by kernel_rfl) (by kernel_rfl) (by simp) ?_
          simp [h3, h4, h5, h31, h32, n3, n4, nj, gj, jCells]
          refine ACallV.mono cm ?_
          rintro _ _ ⟨rfl, rfl⟩
          simp [h3, h4, h5, h31, h32]
          refine awp_iterH (fun _ _ _ q ql => JAt.upd q ql) (S := JAt r false bj) (by simp [mvFn]) (it_single r hr false bj n hlt) (fun (g : Bool) h => h = HH.upd b6 (.cells [.int .i64 n])) (by rintro g _ rfl; exact hj6)
            (fun g t => g && decide (A.getD t 0 < A.getD n 0)) (fun g => if g then none else some .ret) true rfl rfl (by kernel_rfl) (by kernel_rfl) (by simp) (by intro a _; rfl) (.inl rfl) ?_ ?_ ?_
          · rintro l i g a h ha _ hj rfl
            obtain rfl : g = true := by
              cases g with
              | true => rfl
              | false => simp at hj
            have hat := succF_lt hr n a (List.mem_of_getElem? ha)
            have hgA : A.getD a 0 = A[a]'(by omega) := by simp [hlen, hat]
            have hgN : A.getD n 0 = A[n]'(by omega) := by simp [hlen, hlt]
            rw [hgA, hgN]
            simp [h3, h4, h5, h31, h32, putsA]
            refine awp_draw_text (by kernel_rfl) [] [] (by kernel_rfl) (by kernel_rfl) (by simp) ?_
            simp [h3, h4, h5, h31, h32, g3, n3, n4, hlen, hlt, hat]
            refine condA_case (fun hc => ?_) fun hc => ?_
            · have hdn : ¬ (A[a]'(by omega) < A[n]'(by omega)) := by have := of_decide_eq_true hc; omega
              simp [h3, h4, h5, h31, h32, g4, n4, hdn]
              have w4 : (HH.upd b6 (.cells [.int .i64 n])).upd b4 (.cells [.bool false]) = HH.upd b6 (.cells [.int .i64 n]) := by
                apply funext
                intro x
                by_cases q : x = b4
                · subst q
                  rw [AHeap.upd_same, AHeap.upd_ne n4.1, hHH]
                  simp [AHeap.upd, hbj]
                · rw [AHeap.upd_ne q]
              rw [w4]
              exact Drop.refl _
            · have hdn : A[a]'(by omega) < A[n]'(by omega) := by have := of_decide_eq_false hc; omega
              simp [h3, h4, h5, h31, h32, hdn]
              exact Drop.refl _
          · intro g e he
            cases g <;> simp at he
            exact .inl he.symm
          · rintro _ rfl
            have hrun := runIt_and (fun t => decide (A.getD t 0 < A.getD n 0)) (succF r n) true rfl
            have hgo : (fun g : Bool => (if g then none else some Exit.ret : Option Exit).isNone) = fun g => g := by funext g; cases g <;> rfl
            rw [hgo, hrun]
            have hfl : ((succF r n).all fun t => decide (A.getD t 0 < A.getD n 0)) = fallF r A n := rfl
            rw [hfl]
            cases hq : fallF r A n with
            | true =>
              simp [h3, h4, h5, h31, h32]
              refine turnA_to HH (Drop.new (Drop.refl _) hb6) ⟨n + 1, by omega, by omega, by rw [hal1, hq]; simp, by simp [h3, h4, h5, h31, h32, hwn]⟩
            | false =>
              have := fallOn_cut hlt hgd hq
              simp [h3, h4, h5, h31, h32, g4, n4]
              refine finA_drop ?_
              rw [hF, this]
      · have hnE : n = r.size := by omega
        simp [h3, h4, h5, h31, h32, hlt, g4]
        refine finA_drop ?_
        rw [hF, ← hnE, hal]
  · have hF : isRankF r A = false := by simp [isRankF, hlen]
    have hlenI : ¬ (A.length : Int) = (r.size : Int) := by omega
    have hln : lenA Try.prog ((((AHeap.empty.upd b2 (.cells [.int .i64 r.m, .int .i64 r.c, rowsA r.next])).upd b3 (.cells [listI A])).upd b4 (.cells [.bool false]))) 25 (listI A) = some (.int .i64 (A.length : Int)) := by
      unfold listI
      split
      · next e => subst e; simp
      · simp [intsA]
    refine awp_draw_text (by kernel_rfl) [9, 18] [(.fn (.func 45) [] [], [.agg [.int .i64 r.m, .int .i64 r.c, rowsA r.next]], .int .i64 0), (.fn (.func 58) [] [], [.int .i64 r.m, .int .i64 r.c], .int .i64 (r.size : Nat))] (by kernel_rfl) (by kernel_rfl) (by simp; exact ⟨PureV.of cc, PureV.of cs⟩) ?_
    simp [hb3, hb4, hlen, hlenI, gamGet_here, gamGet_cons, -lenA, hln]
    exact finA_drop (by rw [hF])
end Go.Proofs
