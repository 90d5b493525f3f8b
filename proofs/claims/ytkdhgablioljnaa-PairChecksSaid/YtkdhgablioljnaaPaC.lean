/-
  Pair: whether anything is a graph, by the reference.
-/
import Derived.Test.YtkdhgablioljnaaPaB
set_option linter.unusedSimpArgs false
set_option linter.unusedVariables false
set_option linter.unusedSectionVars false
namespace Go.Proofs
open Go Go.AH
set_option maxRecDepth 10000
set_option maxHeartbeats 4000000

def sameE (x y : Ed) : Prop := (x.1 = y.1 ∧ x.2 = y.2) ∨ (x.1 = y.2 ∧ x.2 = y.1)
def edOk (n : Int) (e : Ed) : Prop := 0 ≤ e.1 ∧ e.1 < n ∧ 0 ≤ e.2 ∧ e.2 < n ∧ e.1 ≠ e.2
structure GOk (n : Int) (l : List Ed) : Prop where
  ed : ∀ e ∈ l, edOk n e
  nd : l.Pairwise fun x y => ¬ sameE x y
open Classical in
/-- What Check answers. -/
noncomputable def chkG (n : Int) (l : List Ed) : Int := if 1 ≤ n ∧ n ≤ 40 ∧ l.length ≤ 300 ∧ GOk n l then 0 else 40
theorem GOk.nil {n : Int} : GOk n [] := ⟨(fun e he => nomatch he), List.Pairwise.nil⟩
theorem GOk.take {n : Int} {l : List Ed} (g : GOk n l) (i : Nat) : GOk n (l.take i) := ⟨fun e he => g.ed e (List.mem_of_mem_take he), g.nd.sublist (List.take_sublist i l)⟩
theorem GOk.snoc {n : Int} {l : List Ed} {x : Ed} : GOk n (l ++ [x]) ↔ GOk n l ∧ edOk n x ∧ ∀ y ∈ l, ¬ sameE y x := by
  constructor
  · intro g
    have p := List.pairwise_append.1 g.nd
    exact ⟨⟨fun e he => g.ed e (by simp [he]), p.1⟩, g.ed x (by simp), fun y hy => p.2.2 y hy x (by simp)⟩
  · rintro ⟨g, h, q⟩
    refine ⟨fun e he => ?_, List.pairwise_append.2 ⟨g.nd, by simp, fun y hy z hz => ?_⟩⟩
    · rcases List.mem_append.1 he with h1 | h1
      · exact g.ed e h1
      · simp at h1; rw [h1]; exact h
    · simp at hz; rw [hz]; exact q y hy
theorem take_snoc {l : List Ed} {i : Nat} {x : Ed} (h : l[i]? = some x) : l.take (i + 1) = l.take i ++ [x] := by
  obtain ⟨hi, rfl⟩ := List.getElem?_eq_some_iff.1 h
  exact List.take_succ_eq_append_getElem hi
theorem chk_bad {n : Int} {l : List Ed} (h : ¬ (1 ≤ n ∧ n ≤ 40 ∧ l.length ≤ 300 ∧ GOk n l)) : chkG n l = 40 := by unfold chkG; rw [if_neg h]
theorem chk_good {n : Int} {l : List Ed} (h1 : 1 ≤ n) (h2 : n ≤ 40) (h3 : l.length ≤ 300) (h4 : GOk n l) : chkG n l = 0 := by unfold chkG; rw [if_pos ⟨h1, h2, h3, h4⟩]
theorem bad_edge {n : Int} {l : List Ed} {i : Nat} {x : Ed} (hx : l[i]? = some x) (h : ¬ edOk n x) : ¬ GOk n l := fun g => h (g.ed x (List.mem_of_getElem? hx))
theorem bad_same {n : Int} {l : List Ed} {i k : Nat} {x y : Ed} (hx : l[i]? = some x) (hy : l[k]? = some y) (hk : k < i) (h : sameE y x) : ¬ GOk n l := fun g => by
  have q := (GOk.snoc.1 (take_snoc hx ▸ g.take (i + 1))).2.2 y (by
    refine List.mem_of_getElem? (i := k) ?_
    rw [List.getElem?_take, if_pos hk]; exact hy)
  exact q h

theorem w_RCheck (n : Int) (l : List Ed) (hl : l.length ≤ 1000000) : Pure Try.prog 45 [gV n l] (.int .i64 (chkG n l)) := by
  refine pure_of (acalls_of Try.func45 rfl Try.call45 (by kernel_rfl) (by show _ ≤ (88 : Nat); simp) ?_)
  obtain ⟨r, hr⟩ : ∃ r, r = chkG n l := ⟨_, rfl⟩
  rw [← hr]
  obtain ⟨V, hV⟩ : ∃ V, V = edL l := ⟨_, rfl⟩
  have hV1 : V.one = true := by rw [hV]; simp
  have hV2 : V.fit = true := by rw [hV]; simp
  have hV3 : V.cells = [V] := by rw [hV]; simp
  have hlen : ∀ h : AHeap, lenA Try.prog h 42 V = some (.int .i64 (l.length : Int)) := fun h => by rw [hV]; exact lenA_edL l
  rw [show gV n l = .agg [.int .i64 n, V] from by rw [hV]; rfl]
  simp [hV1, hV2, hV3]
  intro b1 hb1
  simp
  by_cases c1 : n < 1
  · have : r = 40 := by rw [hr]; exact chk_bad (by omega)
    simp [c1]
    exact finA_drop (by rw [this])
  by_cases c2 : 40 < n
  · have : r = 40 := by rw [hr]; exact chk_bad (by omega)
    simp [c1, c2]
    exact finA_drop (by rw [this])
  by_cases c3 : 300 < l.length
  · have : r = 40 := by rw [hr]; exact chk_bad (by omega)
    have c3I : (300 : Int) < (l.length : Int) := by omega
    simp [c1, c2, c3, c3I, -lenA, hlen]
    exact finA_drop (by rw [this])
  have c3I : ¬ (300 : Int) < (l.length : Int) := by omega
  simp [c1, c2, c3, c3I, -lenA, hlen]
  refine awp_loop_g (γ := Nat) (fun i t h => (i ≤ l.length) ∧ (GOk n (l.take i)) ∧ t 1 = .ptr b1 0 ∧ t 3 = .int .i64 i ∧ h = AHeap.empty.upd b1 (.cells [.int .i64 n, V])) (fun i => l.length - i) (0) (turnA_self (by simp [GOk.nil])) ?_
  rintro i t h ⟨hi, hg, h1, h3, rfl⟩
  by_cases hlt : i < l.length
  · have hwi : IntKind.i64.wrap ((i : Int) + 1) = (i : Int) + 1 := wrap_i64 (by omega) (by omega)
    have hVs : V = .sl l.length (edC l) := by rw [hV]; exact edL_ne hlt
    obtain ⟨x, hx⟩ : ∃ x, l[i]? = some x := ⟨_, List.getElem?_eq_getElem hlt⟩
    have hat := edC_at hx
    have hi3 : 2 ≤ l.length * 2 - i * 2 := by omega
    have hi4 : min 2 (l.length * 2 - i * 2) = 2 := by omega
    rw [hVs] at hV1 hV2 hV3 hlen ⊢
    have hbad : ¬ edOk n x → r = 40 := fun q => by rw [hr]; exact chk_bad (fun z => bad_edge hx q z.2.2.2)
    obtain ⟨a, b⟩ := x
    simp only at hat
    simp [h1, h3, -lenA, hlen, hlt]
    refine awp_draw_text (by kernel_rfl) [] [] (by kernel_rfl) (by kernel_rfl) (by simp) ?_
    simp [h1, h3, hlt, hat]
    by_cases d1 : a < 0
    · have := hbad (fun q => by have := q.1; simp only at this; omega)
      simp [h1, h3, d1]
      exact finA_drop (by rw [this])
    by_cases d2 : n ≤ a
    · have := hbad (fun q => by have := q.2.1; simp only at this; omega)
      simp [h1, h3, d1, d2]
      exact finA_drop (by rw [this])
    by_cases d3 : b < 0
    · have := hbad (fun q => by have := q.2.2.1; simp only at this; omega)
      simp [h1, h3, d1, d2, d3]
      exact finA_drop (by rw [this])
    by_cases d4 : n ≤ b
    · have := hbad (fun q => by have := q.2.2.2.1; simp only at this; omega)
      simp [h1, h3, d1, d2, d3, d4]
      exact finA_drop (by rw [this])
    by_cases d5 : a = b
    · have := hbad (fun q => q.2.2.2.2 d5)
      simp [h1, h3, d1, d2, d3, d4, d5]
      have e1 : ¬ b < 0 := d3
      have e2 : ¬ n ≤ b := d4
      simp [h1, h3, e1, e2]
      exact finA_drop (by rw [this])
    have hok : edOk n (a, b) := ⟨by simp only; omega, by simp only; omega, by simp only; omega, by simp only; omega, d5⟩
    simp [h1, h3, d1, d2, d3, d4, d5]
    refine awp_loop_g (γ := Nat) (fun k t h => (k ≤ i) ∧ (∀ y ∈ l.take k, ¬ sameE y (a, b)) ∧ t 1 = .ptr b1 0 ∧ t 3 = .int .i64 i ∧ t 4 = .int .i64 a ∧ t 5 = .int .i64 b ∧ t 6 = .int .i64 k ∧ h = AHeap.empty.upd b1 (.cells [.int .i64 n, .sl l.length (edC l)])) (fun k => i - k) (0) (turnA_self (by simp [h1, h3])) ?_
    rintro k t h ⟨hk, hn, h1, h3, h4, h5, h6, rfl⟩
    by_cases hkt : k < i
    · have hktI : (k : Int) < (i : Int) := by omega
      have hkl : k < l.length := by omega
      have hwk : IntKind.i64.wrap ((k : Int) + 1) = (k : Int) + 1 := wrap_i64 (by omega) (by omega)
      obtain ⟨y, hy⟩ : ∃ y, l[k]? = some y := ⟨_, List.getElem?_eq_getElem hkl⟩
      have hay := edC_at hy
      have hk3 : 2 ≤ l.length * 2 - k * 2 := by omega
      have hk4 : min 2 (l.length * 2 - k * 2) = 2 := by omega
      obtain ⟨B1, f1⟩ : ∃ B1, (decide (y.1 = a) && decide (y.2 = b)) = B1 := ⟨_, rfl⟩
      obtain ⟨B2, f2⟩ : ∃ B2, (decide (y.1 = b) && decide (y.2 = a)) = B2 := ⟨_, rfl⟩
      simp [h1, h3, h4, h5, h6, hkt, hktI, hkl, hay, hk3, hk4, f1]
      have hbs : sameE y (a, b) → r = 40 := fun q => by rw [hr]; exact chk_bad (fun z => bad_same hx hy hkt q z.2.2.2)
      cases B1 with
      | true =>
        have := hbs (.inl (by simpa using f1))
        simp [h1, h3, h4, h5, h6]
        exact finA_drop (by rw [this])
      | false =>
        simp [h1, h3, h4, h5, h6, hkl, hay, hk3, hk4, f2]
        cases B2 with
        | true =>
          have := hbs (.inr (by simpa using f2))
          simp [h1, h3, h4, h5, h6]
          exact finA_drop (by rw [this])
        | false =>
          simp [h1, h3, h4, h5, h6]
          refine turnA_self ⟨k + 1, by omega, by omega, ?_, by simp [h1, h3, h4, h5, h6, hwk]⟩
          intro z1 z2 hz
          rw [take_snoc hy] at hz
          rcases List.mem_append.1 hz with hz | hz
          · exact hn _ hz
          · have hz' : (z1, z2) = y := by simpa using hz
            subst hz'
            rintro (q | q)
            · simp at f1; exact f1 q.1 q.2
            · simp at f2; exact f2 q.1 q.2
    · obtain rfl : k = i := by omega
      simp [h1, h3, h4, h5, h6]
      exact turnA_self ⟨k + 1, by omega, by omega, by rw [take_snoc hx]; exact GOk.snoc.2 ⟨hg, hok, hn⟩, by simp [h1, h3, h4, h5, h6, hwi]⟩
  · obtain rfl : i = l.length := by omega
    rw [List.take_length] at hg
    have : r = 0 := by rw [hr]; exact chk_good (by omega) (by omega) (by omega) hg
    simp [h1, h3, -lenA, hlen]
    exact finA_drop (by rw [this])
end Go.Proofs
