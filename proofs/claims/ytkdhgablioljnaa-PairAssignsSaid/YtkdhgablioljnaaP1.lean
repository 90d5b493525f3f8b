/-
  Texts: PaA PaB PaC PaD PaE.
-/
import Derived.Test.YtkdhgablioljnaaTy
import Derived.Test.YtkdhgablioljnaaAhOwn
set_option linter.unusedSimpArgs false
set_option linter.unusedVariables false
set_option linter.unusedSectionVars false
section
/-
  Pair: lists of numbers and graphs as values; searches.
-/
namespace Go.Proofs
open Go Go.AH
set_option maxRecDepth 10000
set_option maxHeartbeats 4000000

def intC (l : List Int) : List AV := l.map (.int .i64)
/-- A list of whole numbers, nil where it is empty. -/
def intL (l : List Int) : AV := if l = [] then .nilsl else .sl l.length (intC l)
def intS (l : List Int) : AV := .sl l.length (intC l)
theorem intC_frozen {l : List Int} : ∀ x ∈ intC l, x.frozen = true := by
  intro x hx; obtain ⟨a, _, rfl⟩ := List.mem_map.1 hx; rfl
@[simp] theorem intC_length {l : List Int} : (intC l).length = l.length := by simp [intC]
@[simp] theorem intL_frozen {l : List Int} : (intL l).frozen = true := by
  unfold intL
  split
  · rfl
  · simp only [AV.frozen]; exact frozens_iff.2 intC_frozen
@[simp] theorem intL_one {l : List Int} : (intL l).one = true := by unfold intL; split <;> rfl
@[simp] theorem intL_fit {l : List Int} : (intL l).fit = true := by unfold intL; split <;> rfl
@[simp] theorem intL_cells {l : List Int} : (intL l).cells = [intL l] := by unfold intL; split <;> rfl
theorem lenA_intL {h : AHeap} (l : List Int) : lenA Try.prog h 24 (intL l) = some (.int .i64 (l.length : Int)) := by
  unfold intL
  split
  · next e => subst e; simp
  · simp
theorem intC_at {l : List Int} {i : Nat} {x : Int} (e : l[i]? = some x) : (intC l).drop i = .int .i64 x :: (intC l).drop (i + 1) := by
  obtain ⟨h, rfl⟩ := List.getElem?_eq_some_iff.1 e
  rw [List.drop_eq_getElem_cons (by simpa using h)]; simp [intC]
theorem intL_ne {l : List Int} {i : Nat} (h : i < l.length) : intL l = .sl l.length (intC l) := by
  unfold intL; rw [if_neg (fun e => by rw [e] at h; simp at h)]

/-! ### Edges and graphs -/
abbrev Ed := Int × Int
def edC (l : List Ed) : List AV := l.flatMap fun e => [.int .i64 e.1, .int .i64 e.2]
def edL (l : List Ed) : AV := if l = [] then .nilsl else .sl l.length (edC l)
def edS (l : List Ed) : AV := .sl l.length (edC l)
/-- A graph: points and edges. -/
def gV (n : Int) (l : List Ed) : AV := .agg [.int .i64 n, edL l]
@[simp] theorem edC_nil : edC [] = [] := rfl
@[simp] theorem edC_cons {x : Ed} {l : List Ed} : edC (x :: l) = .int .i64 x.1 :: .int .i64 x.2 :: edC l := rfl
@[simp] theorem edC_append {l m : List Ed} : edC (l ++ m) = edC l ++ edC m := by simp [edC]
@[simp] theorem edC_length {l : List Ed} : (edC l).length = l.length * 2 := by
  induction l with
  | nil => rfl
  | cons x l ih => simp [ih]; omega
theorem edC_drop : ∀ (i : Nat) (l : List Ed), (edC l).drop (i * 2) = edC (l.drop i)
  | 0, l => by simp
  | i + 1, [] => by simp
  | i + 1, x :: l => by
    have := edC_drop i l
    rw [show (i + 1) * 2 = i * 2 + 2 from by omega]
    simpa using this
theorem edC_at {l : List Ed} {i : Nat} {x : Ed} (e : l[i]? = some x) : (edC l).drop (i * 2) = .int .i64 x.1 :: .int .i64 x.2 :: edC (l.drop (i + 1)) := by
  obtain ⟨h, rfl⟩ := List.getElem?_eq_some_iff.1 e
  rw [edC_drop, List.drop_eq_getElem_cons h]; rfl
theorem edC_frozen {l : List Ed} : ∀ x ∈ edC l, x.frozen = true := by
  intro x hx
  obtain ⟨a, _, h⟩ := List.mem_flatMap.1 hx
  simp at h
  rcases h with rfl | rfl <;> rfl
@[simp] theorem edL_frozen {l : List Ed} : (edL l).frozen = true := by
  unfold edL
  split
  · rfl
  · simp only [AV.frozen]; exact frozens_iff.2 edC_frozen
@[simp] theorem edL_one {l : List Ed} : (edL l).one = true := by unfold edL; split <;> rfl
@[simp] theorem edL_fit {l : List Ed} : (edL l).fit = true := by unfold edL; split <;> rfl
@[simp] theorem edL_cells {l : List Ed} : (edL l).cells = [edL l] := by unfold edL; split <;> rfl
theorem lenA_edL {h : AHeap} (l : List Ed) : lenA Try.prog h 42 (edL l) = some (.int .i64 (l.length : Int)) := by
  unfold edL
  split
  · next e => subst e; simp
  · simp
theorem edL_ne {l : List Ed} {i : Nat} (h : i < l.length) : edL l = .sl l.length (edC l) := by
  unfold edL; rw [if_neg (fun e => by rw [e] at h; simp at h)]

theorem w_Has (l : List Int) (hl : l.length ≤ 1000000) (y : Int) : Pure Try.prog 29 [intL l, .int .i64 y] (.bool (l.contains y)) := by
  refine pure_of (acalls_of Try.func29 rfl Try.call29 (by kernel_rfl) (by show _ ≤ (18 : Nat); simp) ?_)
  obtain ⟨cb, hcb⟩ : ∃ cb, cb = l.contains y := ⟨_, rfl⟩
  rw [← hcb]
  simp [-lenA]
  refine awp_loop_g (γ := Nat) (fun k t h => (k ≤ l.length) ∧ (y ∉ l.take k) ∧ t 0 = intL l ∧ t 1 = .int .i64 y ∧ t 5 = .int .i64 k ∧ h = AHeap.empty) (fun k => l.length - k) (0) (turnA_self (by simp)) ?_
  rintro k t h ⟨hk, hno, h0, h1, h5, rfl⟩
  by_cases hlt : k < l.length
  · have hw : IntKind.i64.wrap ((k : Int) + 1) = (k : Int) + 1 := wrap_i64 (by omega) (by omega)
    have hV := intL_ne hlt
    obtain ⟨x, hx⟩ : ∃ x, l[k]? = some x := ⟨_, List.getElem?_eq_getElem hlt⟩
    have hat := intC_at hx
    simp [h0, h1, h5, hlt, hV, hat]
    by_cases c : x = y
    · simp [h0, h1, h5, c]
      refine finA_drop ?_
      rw [hcb]
      have : y ∈ l := c ▸ List.mem_of_getElem? hx
      simp [this]
    · simp [h0, h1, h5, c]
      refine turnA_self ⟨k + 1, by omega, by omega, ?_, by simp [h0, h1, h5, hw, hV]⟩
      have hx2 : l[k] = x := by have := List.getElem?_eq_getElem hlt; rw [hx] at this; exact (Option.some.inj this).symm
      rw [List.take_succ_eq_append_getElem hlt, hx2]
      intro h
      rcases List.mem_append.1 h with h | h
      · exact hno h
      · simp at h; exact c h.symm
  · obtain rfl : k = l.length := by omega
    rw [List.take_length] at hno
    simp [h0, h1, h5, -lenA, lenA_intL]
    refine finA_drop ?_
    rw [hcb]; simp [hno]

/-- Are two points joined? -/
def joinB (l : List Ed) (a b : Int) : Bool := l.any fun e => (decide (e.1 = a) && decide (e.2 = b)) || (decide (e.1 = b) && decide (e.2 = a))
theorem w_Joined (n : Int) (l : List Ed) (hl : l.length ≤ 1000000) (a b : Int) : Pure Try.prog 62 [gV n l, .int .i64 a, .int .i64 b] (.bool (joinB l a b)) := by
  refine pure_of (acalls_of Try.func62 rfl Try.call62 (by kernel_rfl) (by show _ ≤ (35 : Nat); simp) ?_)
  obtain ⟨cb, hcb⟩ : ∃ cb, cb = joinB l a b := ⟨_, rfl⟩
  rw [← hcb]
  obtain ⟨V, hV⟩ : ∃ V, V = edL l := ⟨_, rfl⟩
  have hV1 : V.one = true := by rw [hV]; simp
  have hV2 : V.fit = true := by rw [hV]; simp
  have hV3 : V.cells = [V] := by rw [hV]; simp
  have hlen : ∀ h : AHeap, lenA Try.prog h 42 V = some (.int .i64 (l.length : Int)) := fun h => by rw [hV]; exact lenA_edL l
  rw [show gV n l = .agg [.int .i64 n, V] from by rw [hV]; rfl]
  simp [hV1, hV2, hV3]
  intro b3 hb3
  simp
  refine awp_loop_g (γ := Nat) (fun k t h => (k ≤ l.length) ∧ (joinB (l.take k) a b = false) ∧ t 1 = .int .i64 a ∧ t 2 = .int .i64 b ∧ t 3 = .ptr b3 0 ∧ t 7 = .int .i64 k ∧ h = AHeap.empty.upd b3 (.cells [.int .i64 n, V])) (fun k => l.length - k) (0) (turnA_self (by simp [joinB])) ?_
  rintro k t h ⟨hk, hno, h1, h2, h3, h7, rfl⟩
  by_cases hlt : k < l.length
  · have hw : IntKind.i64.wrap ((k : Int) + 1) = (k : Int) + 1 := wrap_i64 (by omega) (by omega)
    have hVs : V = .sl l.length (edC l) := by rw [hV]; exact edL_ne hlt
    obtain ⟨x, hx⟩ : ∃ x, l[k]? = some x := ⟨_, List.getElem?_eq_getElem hlt⟩
    have hat := edC_at hx
    have hx2 : l[k] = x := by have := List.getElem?_eq_getElem hlt; rw [hx] at this; exact (Option.some.inj this).symm
    have hts : joinB (l.take (k + 1)) a b = ((decide (x.1 = a) && decide (x.2 = b)) || (decide (x.1 = b) && decide (x.2 = a))) := by
      rw [List.take_succ_eq_append_getElem hlt, hx2]
      unfold joinB at hno ⊢
      rw [List.any_append, hno]; simp
    have hi3 : 2 ≤ l.length * 2 - k * 2 := by omega
    have hi4 : min 2 (l.length * 2 - k * 2) = 2 := by omega
    have hall : joinB (l.take (k + 1)) a b = true → cb = true := fun q => by
      rw [hcb]
      unfold joinB at q ⊢
      rw [List.any_eq_true] at q ⊢
      obtain ⟨e, he, q⟩ := q
      exact ⟨e, List.mem_of_mem_take he, q⟩
    rw [hVs] at hV1 hV2 hV3 hlen ⊢
    obtain ⟨B1, d1⟩ : ∃ B1, (decide (x.1 = a) && decide (x.2 = b)) = B1 := ⟨_, rfl⟩
    obtain ⟨B2, d2⟩ : ∃ B2, (decide (x.1 = b) && decide (x.2 = a)) = B2 := ⟨_, rfl⟩
    have hts' : joinB (l.take (k + 1)) a b = (B1 || B2) := by
      rw [hts, ← d1, ← d2]
    simp [h1, h2, h3, h7, -lenA, hlen, hlt, hat, hi3, hi4, d1]
    cases B1 with
    | true =>
      have hcb1 : cb = true := hall (by rw [hts']; rfl)
      simp [h1, h2, h3, h7]
      exact finA_drop (by rw [hcb1])
    | false =>
      simp [h1, h2, h3, h7, hlt, hat, hi3, hi4, d2]
      cases B2 with
      | true =>
        have hcb1 : cb = true := hall (by rw [hts']; rfl)
        simp [h1, h2, h3, h7]
        exact finA_drop (by rw [hcb1])
      | false =>
        simp [h1, h2, h3, h7]
        exact turnA_self ⟨k + 1, by omega, by omega, by rw [hts']; rfl, by simp [h1, h2, h3, h7, hw, hlen]⟩
  · obtain rfl : k = l.length := by omega
    rw [List.take_length] at hno
    simp [h1, h2, h3, h7, -lenA, hlen]
    refine finA_drop ?_
    rw [hcb, hno]
end Go.Proofs

end

section
/-
  Pair: whether numbers rise; whether anything is a graph.
-/
namespace Go.Proofs
open Go Go.AH
set_option maxRecDepth 10000
set_option maxHeartbeats 4000000

structure NI where
  i : Nat
  x : Int
/-- Numbers that rise, behind last, below P. -/
def okFrom (P : Int) : Int → List Int → Bool
  | _, [] => true
  | last, x :: r => decide (last < x) && decide (x < P) && okFrom P x r
theorem w_rising (P : Int) (l : List Int) (hl : l.length ≤ 1000000) : Pure Try.prog 63 [intL l, .int .i64 P] (.bool (okFrom P (-1) l)) := by
  refine pure_of (acalls_of Try.func63 rfl Try.call63 (by kernel_rfl) (by show _ ≤ (24 : Nat); simp) ?_)
  obtain ⟨cb, hcb⟩ : ∃ cb, cb = okFrom P (-1) l := ⟨_, rfl⟩
  rw [← hcb]
  simp [-lenA, lenA_intL]
  refine awp_loop_g (γ := NI) (fun q t h => (q.i ≤ l.length) ∧ (cb = okFrom P q.x (l.drop q.i)) ∧ t 1 = .int .i64 P ∧ t 5 = .int .i64 q.x ∧ t 8 = intL l ∧ t 9 = .int .i64 l.length ∧ t 10 = .int .i64 q.i ∧ h = AHeap.empty) (fun q => l.length - q.i) (⟨0, -1⟩) (turnA_self (by simp [hcb])) ?_
  rintro q t h ⟨hi, ho, h1, h5, h8, h9, h10, rfl⟩
  obtain ⟨i, last⟩ := q
  simp only at h1 h5 h8 h9 h10 hi ho
  by_cases hlt : i < l.length
  · have hwi : IntKind.i64.wrap ((i : Int) + 1) = (i : Int) + 1 := wrap_i64 (by omega) (by omega)
    have hV := intL_ne hlt
    obtain ⟨x, hx⟩ : ∃ x, l[i]? = some x := ⟨_, List.getElem?_eq_getElem hlt⟩
    have hat := intC_at hx
    have hdr : l.drop i = x :: l.drop (i + 1) := by
      rw [List.drop_eq_getElem_cons hlt]; congr 1
      have := List.getElem?_eq_getElem hlt; rw [hx] at this; exact (Option.some.inj this).symm
    rw [hdr, okFrom] at ho
    simp [h1, h5, h8, h9, h10, hlt, hV, hat]
    by_cases c1 : x ≤ last
    · have : cb = false := by rw [ho]; simp; intro h; omega
      simp [h1, h5, h8, h9, h10, c1]
      exact finA_drop (by rw [this])
    · by_cases c2 : P ≤ x
      · have : cb = false := by rw [ho]; simp; intro h h2; omega
        simp [h1, h5, h8, h9, h10, c1, c2]
        exact finA_drop (by rw [this])
      · simp [h1, h5, h8, h9, h10, c1, c2]
        have e1 : last < x := by omega
        have e2 : x < P := by omega
        exact turnA_self ⟨⟨i + 1, x⟩, by simp only; omega, by simp only; omega, by simp only; rw [ho]; simp [e1, e2], by simp [h1, h5, h8, h9, h10, hwi, hV]⟩
  · obtain rfl : i = l.length := by omega
    rw [List.drop_length] at ho
    simp [h1, h5, h8, h9, h10]
    exact finA_drop (by rw [ho]; rfl)
theorem w_Rising (n : Int) (es : List Ed) (l : List Int) (hl : l.length ≤ 1000000) : Pure Try.prog 65 [gV n es, intL l] (.bool (okFrom n (-1) l)) := by
  refine pure_of (acalls_of Try.func65 rfl Try.call65 (by kernel_rfl) (by show _ ≤ (42 : Nat); simp) ?_)
  obtain ⟨cb, hcb⟩ : ∃ cb, cb = okFrom n (-1) l := ⟨_, rfl⟩
  rw [← hcb]
  obtain ⟨V, hV⟩ : ∃ V, V = edL es := ⟨_, rfl⟩
  have hV1 : V.one = true := by rw [hV]; simp
  have hV2 : V.fit = true := by rw [hV]; simp
  have hV3 : V.cells = [V] := by rw [hV]; simp
  rw [show gV n es = .agg [.int .i64 n, V] from by rw [hV]; rfl]
  simp [hV1, hV2, hV3]
  intro b2 hb2
  simp
  refine awp_loop_g (γ := NI) (fun q t h => (q.i ≤ l.length) ∧ (cb = okFrom n q.x (l.drop q.i)) ∧ (-1 ≤ q.x ∧ (0 < q.i → l[q.i - 1]? = some q.x) ∧ (q.i = 0 → q.x = -1)) ∧ t 1 = intL l ∧ t 2 = .ptr b2 0 ∧ t 5 = .int .i64 q.i ∧ h = AHeap.empty.upd b2 (.cells [.int .i64 n, V])) (fun q => l.length - q.i) (⟨0, -1⟩) (turnA_self (by simp [hcb])) ?_
  rintro q t h ⟨hi, ho, hm, h1, h2, h5, rfl⟩
  obtain ⟨i, last⟩ := q
  simp only at h1 h2 h5 hi ho hm
  obtain ⟨m1, m2, m3⟩ := hm
  by_cases hlt : i < l.length
  · have hwi : IntKind.i64.wrap ((i : Int) + 1) = (i : Int) + 1 := wrap_i64 (by omega) (by omega)
    have hVi := intL_ne hlt
    obtain ⟨x, hx⟩ : ∃ x, l[i]? = some x := ⟨_, List.getElem?_eq_getElem hlt⟩
    have hat := intC_at hx
    have hdr : l.drop i = x :: l.drop (i + 1) := by
      rw [List.drop_eq_getElem_cons hlt]; congr 1
      have := List.getElem?_eq_getElem hlt; rw [hx] at this; exact (Option.some.inj this).symm
    rw [hdr, okFrom] at ho
    simp [h1, h2, h5, hlt, hVi]
    refine awp_draw_text (by kernel_rfl) [] [] (by kernel_rfl) (by kernel_rfl) (by simp) ?_
    by_cases c1 : x < 0
    · have : cb = false := by rw [ho]; simp; intro h; omega
      simp [h1, h2, h5, hlt, hVi, hat, c1]
      exact finA_drop (by rw [this])
    · by_cases c2 : n ≤ x
      · have : cb = false := by rw [ho]; simp; intro h h2; omega
        simp [h1, h2, h5, hlt, hVi, hat, c1, c2]
        exact finA_drop (by rw [this])
      · by_cases c3 : i = 0
        · have e1 : last < x := by have := m3 c3; omega
          have e2 : x < n := by omega
          have ci : ¬ 0 < (i : Int) := by omega
          have ci' : ¬ 0 < i := by omega
          simp [h1, h2, h5, hlt, hVi, hat, c1, c2, ci, ci']
          exact turnA_self ⟨⟨i + 1, x⟩, by simp only; omega, by simp only; omega, by simp only; rw [ho]; simp [e1, e2], ⟨by simp only; omega, by simp only [Nat.add_sub_cancel]; exact fun _ => hx, by simp only; omega⟩, by simp [h1, h2, h5, hwi, hVi]⟩
        · have ci : 0 < (i : Int) := by omega
          have ci' : 0 < i := by omega
          have hat2 := intC_at (m2 ci')
          have ws : IntKind.i64.wrap ((i : Int) - 1) = ((i - 1 : Nat) : Int) := by rw [wrap_i64 (by omega) (by omega)]; omega
          have hlt2 : i - 1 < l.length := by omega
          by_cases c4 : x ≤ last
          · have : cb = false := by rw [ho]; simp; intro h; omega
            simp [h1, h2, h5, hlt, hVi, hat, c1, c2, ci, ci', ws, hlt2, hat2, c4]
            exact finA_drop (by rw [this])
          · have e1 : last < x := by omega
            have e2 : x < n := by omega
            simp [h1, h2, h5, hlt, hVi, hat, c1, c2, ci, ci', ws, hlt2, hat2, c4]
            exact turnA_self ⟨⟨i + 1, x⟩, by simp only; omega, by simp only; omega, by simp only; rw [ho]; simp [e1, e2], ⟨by simp only; omega, by simp only [Nat.add_sub_cancel]; exact fun _ => hx, by simp only; omega⟩, by simp [h1, h2, h5, hwi, hVi]⟩
  · obtain rfl : i = l.length := by omega
    rw [List.drop_length] at ho
    simp [h1, h2, h5, -lenA, lenA_intL]
    exact finA_drop (by rw [ho]; rfl)
end Go.Proofs

end

section
/-
  Pair: whether anything is a graph, by the reference.
-/
namespace Go.Proofs
open Go Go.AH
set_option maxRecDepth 10000
set_option maxHeartbeats 4000000

def sameE (x y : Ed) : Prop := (x.1 = y.1 ∧ x.2 = y.2) ∨ (x.1 = y.2 ∧ x.2 = y.1)
def edOk (n : Int) (e : Ed) : Prop := 0 ≤ e.1 ∧ e.1 < n ∧ 0 ≤ e.2 ∧ e.2 < n ∧ e.1 ≠ e.2
structure GOk (n : Int) (l : List Ed) : Prop where
  ed : ∀ e ∈ l, edOk n e
  nd : l.Pairwise fun x y => ¬ sameE x y
open Classical in
/-- What Check answers. -/
noncomputable def chkG (n : Int) (l : List Ed) : Int := if 1 ≤ n ∧ n ≤ 40 ∧ l.length ≤ 300 ∧ GOk n l then 0 else 40
theorem GOk.nil {n : Int} : GOk n [] := ⟨(fun e he => nomatch he), List.Pairwise.nil⟩
theorem GOk.take {n : Int} {l : List Ed} (g : GOk n l) (i : Nat) : GOk n (l.take i) := ⟨fun e he => g.ed e (List.mem_of_mem_take he), g.nd.sublist (List.take_sublist i l)⟩
theorem GOk.snoc {n : Int} {l : List Ed} {x : Ed} : GOk n (l ++ [x]) ↔ GOk n l ∧ edOk n x ∧ ∀ y ∈ l, ¬ sameE y x := by
  constructor
  · intro g
    have p := List.pairwise_append.1 g.nd
    exact ⟨⟨fun e he => g.ed e (by simp [he]), p.1⟩, g.ed x (by simp), fun y hy => p.2.2 y hy x (by simp)⟩
  · rintro ⟨g, h, q⟩
    refine ⟨fun e he => ?_, List.pairwise_append.2 ⟨g.nd, by simp, fun y hy z hz => ?_⟩⟩
    · rcases List.mem_append.1 he with h1 | h1
      · exact g.ed e h1
      · simp at h1; rw [h1]; exact h
    · simp at hz; rw [hz]; exact q y hy
theorem take_snoc {l : List Ed} {i : Nat} {x : Ed} (h : l[i]? = some x) : l.take (i + 1) = l.take i ++ [x] := by
  obtain ⟨hi, rfl⟩ := List.getElem?_eq_some_iff.1 h
  exact List.take_succ_eq_append_getElem hi
theorem chk_bad {n : Int} {l : List Ed} (h : ¬ (1 ≤ n ∧ n ≤ 40 ∧ l.length ≤ 300 ∧ GOk n l)) : chkG n l = 40 := by unfold chkG; rw [if_neg h]
theorem chk_good {n : Int} {l : List Ed} (h1 : 1 ≤ n) (h2 : n ≤ 40) (h3 : l.length ≤ 300) (h4 : GOk n l) : chkG n l = 0 := by unfold chkG; rw [if_pos ⟨h1, h2, h3, h4⟩]
theorem bad_edge {n : Int} {l : List Ed} {i : Nat} {x : Ed} (hx : l[i]? = some x) (h : ¬ edOk n x) : ¬ GOk n l := fun g => h (g.ed x (List.mem_of_getElem? hx))
theorem bad_same {n : Int} {l : List Ed} {i k : Nat} {x y : Ed} (hx : l[i]? = some x) (hy : l[k]? = some y) (hk : k < i) (h : sameE y x) : ¬ GOk n l := fun g => by
  have q := (GOk.snoc.1 (take_snoc hx ▸ g.take (i + 1))).2.2 y (by
    refine List.mem_of_getElem? (i := k) ?_
    rw [List.getElem?_take, if_pos hk]; exact hy)
  exact q h

theorem w_RCheck (n : Int) (l : List Ed) (hl : l.length ≤ 1000000) : Pure Try.prog 45 [gV n l] (.int .i64 (chkG n l)) := by
  refine pure_of (acalls_of Try.func45 rfl Try.call45 (by kernel_rfl) (by show _ ≤ (88 : Nat); simp) ?_)
  obtain ⟨r, hr⟩ : ∃ r, r = chkG n l := ⟨_, rfl⟩
  rw [← hr]
  obtain ⟨V, hV⟩ : ∃ V, V = edL l := ⟨_, rfl⟩
  have hV1 : V.one = true := by rw [hV]; simp
  have hV2 : V.fit = true := by rw [hV]; simp
  have hV3 : V.cells = [V] := by rw [hV]; simp
  have hlen : ∀ h : AHeap, lenA Try.prog h 42 V = some (.int .i64 (l.length : Int)) := fun h => by rw [hV]; exact lenA_edL l
  rw [show gV n l = .agg [.int .i64 n, V] from by rw [hV]; rfl]
  simp [hV1, hV2, hV3]
  intro b1 hb1
  simp
  by_cases c1 : n < 1
  · have : r = 40 := by rw [hr]; exact chk_bad (by omega)
    simp [c1]
    exact finA_drop (by rw [this])
  by_cases c2 : 40 < n
  · have : r = 40 := by rw [hr]; exact chk_bad (by omega)
    simp [c1, c2]
    exact finA_drop (by rw [this])
  by_cases c3 : 300 < l.length
  · have : r = 40 := by rw [hr]; exact chk_bad (by omega)
    have c3I : (300 : Int) < (l.length : Int) := by omega
    simp [c1, c2, c3, c3I, -lenA, hlen]
    exact finA_drop (by rw [this])
  have c3I : ¬ (300 : Int) < (l.length : Int) := by omega
  simp [c1, c2, c3, c3I, -lenA, hlen]
  refine awp_loop_g (γ := Nat) (fun i t h => (i ≤ l.length) ∧ (GOk n (l.take i)) ∧ t 1 = .ptr b1 0 ∧ t 3 = .int .i64 i ∧ h = AHeap.empty.upd b1 (.cells [.int .i64 n, V])) (fun i => l.length - i) (0) (turnA_self (by simp [GOk.nil])) ?_
  rintro i t h ⟨hi, hg, h1, h3, rfl⟩
  by_cases hlt : i < l.length
  · have hwi : IntKind.i64.wrap ((i : Int) + 1) = (i : Int) + 1 := wrap_i64 (by omega) (by omega)
    have hVs : V = .sl l.length (edC l) := by rw [hV]; exact edL_ne hlt
    obtain ⟨x, hx⟩ : ∃ x, l[i]? = some x := ⟨_, List.getElem?_eq_getElem hlt⟩
    have hat := edC_at hx
    have hi3 : 2 ≤ l.length * 2 - i * 2 := by omega
    have hi4 : min 2 (l.length * 2 - i * 2) = 2 := by omega
    rw [hVs] at hV1 hV2 hV3 hlen ⊢
    have hbad : ¬ edOk n x → r = 40 := fun q => by rw [hr]; exact chk_bad (fun z => bad_edge hx q z.2.2.2)
    obtain ⟨a, b⟩ := x
    simp only at hat
    simp [h1, h3, -lenA, hlen, hlt]
    refine awp_draw_text (by kernel_rfl) [] [] (by kernel_rfl) (by kernel_rfl) (by simp) ?_
    simp [h1, h3, hlt, hat]
    by_cases d1 : a < 0
    · have := hbad (fun q => by have := q.1; simp only at this; omega)
      simp [h1, h3, d1]
      exact finA_drop (by rw [this])
    by_cases d2 : n ≤ a
    · have := hbad (fun q => by have := q.2.1; simp only at this; omega)
      simp [h1, h3, d1, d2]
      exact finA_drop (by rw [this])
    by_cases d3 : b < 0
    · have := hbad (fun q => by have := q.2.2.1; simp only at this; omega)
      simp [h1, h3, d1, d2, d3]
      exact finA_drop (by rw [this])
    by_cases d4 : n ≤ b
    · have := hbad (fun q => by have := q.2.2.2.1; simp only at this; omega)
      simp [h1, h3, d1, d2, d3, d4]
      exact finA_drop (by rw [this])
    by_cases d5 : a = b
    · have := hbad (fun q => q.2.2.2.2 d5)
      simp [h1, h3, d1, d2, d3, d4, d5]
      have e1 : ¬ b < 0 := d3
      have e2 : ¬ n ≤ b := d4
      simp [h1, h3, e1, e2]
      exact finA_drop (by rw [this])
    have hok : edOk n (a, b) := ⟨by simp only; omega, by simp only; omega, by simp only; omega, by simp only; omega, d5⟩
    simp [h1, h3, d1, d2, d3, d4, d5]
    refine awp_loop_g (γ := Nat) (fun k t h => (k ≤ i) ∧ (∀ y ∈ l.take k, ¬ sameE y (a, b)) ∧ t 1 = .ptr b1 0 ∧ t 3 = .int .i64 i ∧ t 4 = .int .i64 a ∧ t 5 = .int .i64 b ∧ t 6 = .int .i64 k ∧ h = AHeap.empty.upd b1 (.cells [.int .i64 n, .sl l.length (edC l)])) (fun k => i - k) (0) (turnA_self (by simp [h1, h3])) ?_
    rintro k t h ⟨hk, hn, h1, h3, h4, h5, h6, rfl⟩
    by_cases hkt : k < i
    · have hktI : (k : Int) < (i : Int) := by omega
      have hkl : k < l.length := by omega
      have hwk : IntKind.i64.wrap ((k : Int) + 1) = (k : Int) + 1 := wrap_i64 (by omega) (by omega)
      obtain ⟨y, hy⟩ : ∃ y, l[k]? = some y := ⟨_, List.getElem?_eq_getElem hkl⟩
      have hay := edC_at hy
      have hk3 : 2 ≤ l.length * 2 - k * 2 := by omega
      have hk4 : min 2 (l.length * 2 - k * 2) = 2 := by omega
      obtain ⟨B1, f1⟩ : ∃ B1, (decide (y.1 = a) && decide (y.2 = b)) = B1 := ⟨_, rfl⟩
      obtain ⟨B2, f2⟩ : ∃ B2, (decide (y.1 = b) && decide (y.2 = a)) = B2 := ⟨_, rfl⟩
      simp [h1, h3, h4, h5, h6, hkt, hktI, hkl, hay, hk3, hk4, f1]
      have hbs : sameE y (a, b) → r = 40 := fun q => by rw [hr]; exact chk_bad (fun z => bad_same hx hy hkt q z.2.2.2)
      cases B1 with
      | true =>
        have := hbs (.inl (by simpa using f1))
        simp [h1, h3, h4, h5, h6]
        exact finA_drop (by rw [this])
      | false =>
        simp [h1, h3, h4, h5, h6, hkl, hay, hk3, hk4, f2]
        cases B2 with
        | true =>
          have := hbs (.inr (by simpa using f2))
          simp [h1, h3, h4, h5, h6]
          exact finA_drop (by rw [this])
        | false =>
          simp [h1, h3, h4, h5, h6]
          refine turnA_self ⟨k + 1, by omega, by omega, ?_, by simp [h1, h3, h4, h5, h6, hwk]⟩
          intro z1 z2 hz
          rw [take_snoc hy] at hz
          rcases List.mem_append.1 hz with hz | hz
          · exact hn _ hz
          · have hz' : (z1, z2) = y := by simpa using hz
            subst hz'
            rintro (q | q)
            · simp at f1; exact f1 q.1 q.2
            · simp at f2; exact f2 q.1 q.2
    · obtain rfl : k = i := by omega
      simp [h1, h3, h4, h5, h6]
      exact turnA_self ⟨k + 1, by omega, by omega, by rw [take_snoc hx]; exact GOk.snoc.2 ⟨hg, hok, hn⟩, by simp [h1, h3, h4, h5, h6, hwi]⟩
  · obtain rfl : i = l.length := by omega
    rw [List.take_length] at hg
    have : r = 0 := by rw [hr]; exact chk_good (by omega) (by omega) (by omega) hg
    simp [h1, h3, -lenA, hlen]
    exact finA_drop (by rw [this])
end Go.Proofs

end

section
/-
  Pair: whether anything is a graph, by the program.
-/
namespace Go.Proofs
open Go Go.AH
set_option maxRecDepth 10000
set_option maxHeartbeats 4000000

def mnE (e : Ed) : Int := if e.2 < e.1 then e.2 else e.1
def mxE (e : Ed) : Int := if e.1 < e.2 then e.2 else e.1
def keyE (e : Ed) : AV := .agg [.int .i64 (mnE e), .int .i64 (mxE e)]
theorem sameE_iff {x y : Ed} : sameE x y ↔ mnE x = mnE y ∧ mxE x = mxE y := by
  unfold sameE mnE mxE
  constructor
  · rintro (⟨h1, h2⟩ | ⟨h1, h2⟩) <;> rw [h1, h2]
    · exact ⟨rfl, rfl⟩
    · constructor <;> (repeat' split) <;> omega
  · rintro ⟨h1, h2⟩
    repeat' split at h1
    all_goals (repeat' split at h2)
    all_goals omega
/-- The edges, as the keys of a map. -/
noncomputable def edM (l : List Ed) : List (AV × AV) := l.map fun e => (keyE e, .bool true)
theorem edM_get {a b : Int} : ∀ l : List Ed, mapGet (edM l) (.agg [.int .i64 a, .int .i64 b]) = if l.any (fun e => decide (mnE e = a) && decide (mxE e = b)) then some (.bool true) else none
  | [] => rfl
  | y :: l => by
    have ih := edM_get (a := a) (b := b) l
    unfold edM at ih ⊢
    simp only [List.map_cons, mapGet, List.any_cons]
    by_cases e : mnE y = a ∧ mxE y = b
    · rw [if_pos (by unfold keyE; rw [e.1, e.2])]
      simp [e.1, e.2]
    · have e1 : ¬ keyE y = .agg [.int .i64 a, .int .i64 b] := fun q => e (by unfold keyE at q; simpa using q)
      rw [if_neg e1, ih]
      have e2 : (decide (mnE y = a) && decide (mxE y = b)) = false := by simpa using e
      simp only [e2, Bool.false_or]
theorem edM_set {x : Ed} {l : List Ed} (h : ∀ y ∈ l, ¬ sameE y x) : mapSet (edM l) (keyE x) (.bool true) = edM (l ++ [x]) := by
  have := edM_get (a := mnE x) (b := mxE x) l
  rw [if_neg (by
    intro q
    obtain ⟨y, hy, q⟩ := List.any_eq_true.1 q
    simp at q
    exact h y hy (sameE_iff.2 q))] at this
  rw [keyE, mapSet_none this]
  simp [edM, keyE]
abbrev edSh : KShape := .many [.i .i64, .i .i64]

theorem w_Check (n : Int) (l : List Ed) (hl : l.length ≤ 1000000) : Pure Try.prog 46 [gV n l] (.int .i64 (chkG n l)) := by
  refine pure_of (acalls_of Try.func46 rfl Try.call46 (by kernel_rfl) (by show _ ≤ (65 : Nat); simp) ?_)
  obtain ⟨r, hr⟩ : ∃ r, r = chkG n l := ⟨_, rfl⟩
  rw [← hr]
  obtain ⟨V, hV⟩ : ∃ V, V = edL l := ⟨_, rfl⟩
  have hV1 : V.one = true := by rw [hV]; simp
  have hV2 : V.fit = true := by rw [hV]; simp
  have hV3 : V.cells = [V] := by rw [hV]; simp
  have hlen : ∀ h : AHeap, lenA Try.prog h 42 V = some (.int .i64 (l.length : Int)) := fun h => by rw [hV]; exact lenA_edL l
  rw [show gV n l = .agg [.int .i64 n, V] from by rw [hV]; rfl]
  simp [hV1, hV2, hV3]
  intro b1 hb1
  simp
  by_cases c1 : n < 1
  · have : r = 40 := by rw [hr]; exact chk_bad (by omega)
    simp [c1]
    exact finA_drop (by rw [this])
  by_cases c2 : 40 < n
  · have : r = 40 := by rw [hr]; exact chk_bad (by omega)
    simp [c1, c2]
    exact finA_drop (by rw [this])
  by_cases c3 : 300 < l.length
  · have : r = 40 := by rw [hr]; exact chk_bad (by omega)
    have c3I : (300 : Int) < (l.length : Int) := by omega
    simp [c1, c2, c3, c3I, -lenA, hlen]
    exact finA_drop (by rw [this])
  have c3I : ¬ (300 : Int) < (l.length : Int) := by omega
  simp [c1, c2, c3, c3I, -lenA, hlen]
  intro bm hbm
  simp at hbm
  simp [hbm, -lenA, hlen]
  refine awp_loop_g (γ := Nat) (fun i t h => (i ≤ l.length) ∧ (GOk n (l.take i)) ∧ t 1 = .ptr b1 0 ∧ t 3 = .map bm ∧ t 23 = V ∧ t 24 = .int .i64 l.length ∧ t 25 = .int .i64 i ∧ h = (AHeap.empty.upd b1 (.cells [.int .i64 n, V])).upd bm (.map edSh (edM (l.take i)))) (fun i => l.length - i) (0) (turnA_self (by simp [GOk.nil, edM, hbm])) ?_
  rintro i t h ⟨hi, hg, h1, h3, h23, h24, h25, rfl⟩
  by_cases hlt : i < l.length
  · have hltI : (i : Int) < (l.length : Int) := by omega
    have hwi : IntKind.i64.wrap ((i : Int) + 1) = (i : Int) + 1 := wrap_i64 (by omega) (by omega)
    have hVs : V = .sl l.length (edC l) := by rw [hV]; exact edL_ne hlt
    obtain ⟨x, hx⟩ : ∃ x, l[i]? = some x := ⟨_, List.getElem?_eq_getElem hlt⟩
    have hat := edC_at hx
    have hi3 : 2 ≤ l.length * 2 - i * 2 := by omega
    have hi4 : min 2 (l.length * 2 - i * 2) = 2 := by omega
    have hz : zcells [.int .i64 0, .int .i64 0] 1 = [.int .i64 0, .int .i64 0] := rfl
    rw [hVs] at hV1 hV2 hV3 hlen ⊢
    have hbad : ¬ edOk n x → r = 40 := fun q => by rw [hr]; exact chk_bad (fun z => bad_edge hx q z.2.2.2)
    have hmn : (if x.2 < x.1 then x.2 else x.1) = mnE x := rfl
    have hmx : (if x.1 < x.2 then x.2 else x.1) = mxE x := rfl
    simp [h1, h3, h23, h24, h25, hVs, hlt, hltI, hat, hi3, hi4]
    intro b5 hb5
    simp [hbm] at hb5
    simp [h1, h3, h23, h24, h25, hb5, hbm, hmn, hmx, splice]
    intro b6 hb6
    simp [hbm, hb5] at hb6
    simp [h1, h3, h23, h24, h25, hb6, hb5, hbm, splice]
    by_cases d1 : mnE x < 0
    · have := hbad (fun q => by unfold edOk at q; unfold mnE at d1; split at d1 <;> omega)
      simp [h1, h3, h23, h24, h25, hb6, hb5, hbm, d1]
      exact finA_drop (by rw [this])
    by_cases d2 : n ≤ mxE x
    · have := hbad (fun q => by unfold edOk at q; unfold mxE at d2; split at d2 <;> omega)
      simp [h1, h3, h23, h24, h25, hb6, hb5, hbm, d1, d2]
      exact finA_drop (by rw [this])
    by_cases d3 : mnE x = mxE x
    · have := hbad (fun q => by
        unfold edOk at q; unfold mnE mxE at d3
        split at d3 <;> split at d3 <;> omega)
      have d1' : ¬ mxE x < 0 := d3 ▸ d1
      simp [h1, h3, h23, h24, h25, hb6, hb5, hbm, d1, d1', d2, d3]
      exact finA_drop (by rw [this])
    have hok : edOk n x := by
      unfold edOk
      unfold mnE at d1 d3
      unfold mxE at d2 d3
      refine ⟨?_, ?_, ?_, ?_, ?_⟩
      · split at d1 <;> omega
      · split at d2 <;> omega
      · split at d1 <;> omega
      · split at d2 <;> omega
      · intro e
        rw [e] at d3
        exact d3 rfl
    obtain ⟨B, hB⟩ : ∃ B, (l.take i).any (fun e => decide (mnE e = mnE x) && decide (mxE e = mxE x)) = B := ⟨_, rfl⟩
    have hget := edM_get (a := mnE x) (b := mxE x) (l.take i)
    rw [hB] at hget
    simp [h1, h3, h23, h24, h25, hb6, hb5, hbm, d1, d2, d3, hget]
    cases B with
    | true =>
      have : r = 40 := by
        rw [hr]
        refine chk_bad (fun z => ?_)
        obtain ⟨y, hy, q⟩ := List.any_eq_true.1 hB
        simp at q
        obtain ⟨k, hk, e⟩ := List.mem_take_iff_getElem.1 hy
        exact bad_same (k := k) hx (by rw [List.getElem?_eq_getElem (by omega), e]) (by omega) (sameE_iff.2 q) z.2.2.2
      simp [h1, h3, h23, h24, h25]
      exact finA_drop (by rw [this])
    | false =>
      have hn : ∀ y ∈ l.take i, ¬ sameE y x := fun y hy q => by
        have := List.any_eq_false.1 hB y hy
        simp at this
        have q := sameE_iff.1 q
        exact this q.1 q.2
      have hset := edM_set hn
      rw [← take_snoc hx] at hset
      unfold keyE at hset
      simp [h1, h3, h23, h24, h25, hb6, hb5, hbm, hset]
      refine turnA_to ((AHeap.empty.upd b1 (.cells [.int .i64 n, .sl l.length (edC l)])).upd bm (.map edSh (edM (l.take (i + 1))))) ?_ ⟨i + 1, by omega, by omega, by rw [take_snoc hx]; exact GOk.snoc.2 ⟨hg, hok, hn⟩, by simp [h1, h3, h23, h24, h25, hwi, hVs]⟩
      exact Drop.new (Drop.new (Drop.refl _) (by simp [hb5])) (by simp [hb6])
  · obtain rfl : i = l.length := by omega
    rw [List.take_length] at hg
    have : r = 0 := by rw [hr]; exact chk_good (by omega) (by omega) (by omega) hg
    simp [h1, h3, h23, h24, h25, -lenA, hlen]
    exact finA_drop (by rw [this])
end Go.Proofs

end

section
/-
  Pair: graphs, tamed.
-/
namespace Go.Proofs
open Go Go.AH
set_option maxRecDepth 10000
set_option maxHeartbeats 4000000

theorem l_give (n : Int) (l : List Ed) : Pure Try.prog 23 [gV n l] (gV n l) := by
  refine pure_of (acalls_of Try.func23 rfl Try.call23 (by kernel_rfl) (by show _ ≤ (8 : Nat); simp) ?_)
  obtain ⟨V, hV⟩ : ∃ V, V = edL l := ⟨_, rfl⟩
  have hV1 : V.one = true := by rw [hV]; simp
  have hV2 : V.fit = true := by rw [hV]; simp
  have hV3 : V.cells = [V] := by rw [hV]; simp
  rw [show gV n l = .agg [.int .i64 n, V] from by rw [hV]; rfl]
  simp [hV1, hV2, hV3]
  intro b1 hb1
  simp
  intro b2 hb2
  simp at hb2
  simp [hb2, splice, hV1, hV2, hV3]
  exact finA_drop rfl
theorem l_raw (l : List Int) (most : Nat) (hl : l.length ≤ 4611686018427387904) (hm : most ≤ 1000) : Pure Try.prog 24 [intS l, .int .i64 most] (intL (l.take most)) := by
  refine pure_of (acalls_of Try.func24 rfl Try.call24 (by kernel_rfl) (by show _ ≤ (14 : Nat); simp) ?_)
  unfold intS
  obtain ⟨N, hN⟩ : ∃ N, N = min l.length most := ⟨_, rfl⟩
  have hmin : (if most < l.length then (most : Int) else (l.length : Int)) = (N : Int) := by split <;> omega
  have c1 : (0 : Int) ≤ (N : Int) := by omega
  have hN1 : (N : Int) ≤ (l.length : Int) := by omega
  have hNl : N ≤ l.length := by omega
  have htk : l.take most = l.take N := by
    rw [hN]
    rcases Nat.le_total l.length most with h | h
    · rw [Nat.min_eq_left h, List.take_of_length_le h, List.take_length]
    · rw [Nat.min_eq_right h]
  have htc : (intC l).take N = intC (l.take N) := by simp [intC, List.map_take]
  have hml : min N l.length = N := by omega
  rw [htk]
  simp [hmin, hN1, hNl, htc, hml]
  constructor
  · intro h0
    subst h0
    refine finA_drop ?_
    simp [intL]
  · intro h0
    refine ⟨by omega, fun b hb => ?_⟩
    simp
    refine finA_all 2 ?_
    rw [frz_osl (by simp)]
    have hne : ¬ l.take N = [] := fun e => by
      have := congrArg List.length e
      simp at this
      rcases this with e | e
      · exact h0 e
      · subst e; simp at hNl; exact h0 hNl
    simp [intL, hne, hml]
    rw [map_frozen intC_frozen]
    exact List.take_of_length_le (by simp; omega)

def uM (x : Int) : Int := IntKind.u64.wrap x
def tameP (n : Int) (points : Nat) : Nat := 1 + (uM (IntKind.i64.wrap (n - 1)) % (points : Int)).toNat
def tameE (P : Nat) (most : Nat) : List Ed → List Ed → List Ed
  | out, [] => out
  | out, e :: l => if out.length < most then tameE P most (if uM e.1 % P = uM e.2 % P ∨ joinB out (uM e.1 % P) (uM e.2 % P) = true then out else out ++ [(uM e.1 % P, uM e.2 % P)]) l else out
theorem joinB_iff {l : List Ed} {a b : Int} : joinB l a b = true ↔ ∃ e ∈ l, sameE e (a, b) := by
  unfold joinB sameE
  rw [List.any_eq_true]
  simp
theorem tameE_ok {P : Nat} (hP : 0 < P) (most : Nat) : ∀ (l out : List Ed), GOk P out → out.length ≤ most → GOk P (tameE P most out l) ∧ (tameE P most out l).length ≤ most
  | [], out, g, h => ⟨g, h⟩
  | e :: l, out, g, h => by
    unfold tameE
    split
    · next hlt =>
      split
      · exact tameE_ok hP most l out g h
      · next hn =>
        refine tameE_ok hP most l _ (GOk.snoc.2 ⟨g, ?_, ?_⟩) (by simp; omega)
        · have p : ¬ (P : Int) = 0 := by omega
          have h1 := Int.emod_nonneg (uM e.1) p
          have h2 := Int.emod_lt_of_pos (uM e.1) (show (0 : Int) < P by omega)
          have h3 := Int.emod_nonneg (uM e.2) p
          have h4 := Int.emod_lt_of_pos (uM e.2) (show (0 : Int) < P by omega)
          exact ⟨h1, h2, h3, h4, fun q => hn (.inl q)⟩
        · intro y hy q
          exact hn (.inr (joinB_iff.2 ⟨y, hy, q⟩))
    · exact ⟨g, h⟩
theorem tameP_le {n : Int} {points : Nat} (hp : 0 < points) : 1 ≤ tameP n points ∧ tameP n points ≤ points := by
  unfold tameP
  have := Int.emod_lt_of_pos (uM (IntKind.i64.wrap (n - 1))) (show (0 : Int) < points by omega)
  omega
theorem l_JoinedO (P : Int) (out : List Ed) (o : Option Nat) (a b : Int) (H : AHeap) (hl : out.length ≤ 1000000) (ho : o = none ↔ out = []) (hb : ∀ x, o = some x → H x = some (.cells (edC out))) :
    ACalls Try.prog 62 [.agg [.int .i64 P, ownV o out.length 2], .int .i64 a, .int .i64 b] H fun r h' => r = .bool (joinB out a b) ∧ h' = H := by
  refine Pure.lend (k := 3) (r := .bool (joinB out a b)) rfl ?_ ⟨rfl, rfl⟩
  have e : ([.agg [.int .i64 P, ownV o out.length 2], .int .i64 a, .int .i64 b] : List AV).map (frzF 3 H AHeap.empty) = [gV P out, .int .i64 a, .int .i64 b] := by
    simp only [List.map_cons, List.map_nil, frz_agg, frz_int]
    congr 1
    unfold gV
    congr 1
    congr 1
    congr 1
    cases o with
    | none => rw [ho.1 rfl]; simp [edL]
    | some x =>
      have hne : ¬ out = [] := fun q => nomatch ho.2 q
      rw [ownV_some, frz_osl (by simp), cellsAt_eq (hb x rfl)]
      simp [edL, hne]
      rw [map_frozen edC_frozen]
      exact List.take_of_length_le (by simp)
  rw [e]
  exact w_Joined P out hl a b

structure At2 where
  i : Nat
  o : Option Nat
  l : List Ed
theorem w_tame (n : Int) (l : List Ed) (hl : l.length ≤ 4611686018427387904) (points most : Nat) (hp : 1 ≤ points ∧ points ≤ 40) (hm : most ≤ 300) : Pure Try.prog 22 [.agg [.int .i64 n, edS l], .int .i64 points, .int .i64 most] (gV (tameP n points) (tameE (tameP n points) most [] l)) := by
  refine pure_of (acalls_of Try.func22 rfl Try.call22 (by kernel_rfl) (by show _ ≤ (80 : Nat); simp) ?_)
  obtain ⟨P, hP⟩ : ∃ P, P = tameP n points := ⟨_, rfl⟩
  obtain ⟨R, hR⟩ : ∃ R, R = tameE P most [] l := ⟨_, rfl⟩
  have hP2 := tameP_le (n := n) hp.1
  rw [← hP] at hP2
  have u1 := u64_nonneg (IntKind.i64.wrap (n - 1))
  have w2 : IntKind.u64.wrap (points : Int) = (points : Int) := wrap_u64 (by omega) (by omega)
  have hp1 : ¬ (points : Int) = 0 := by omega
  have hpN : ¬ points = 0 := by omega
  have htm : (IntKind.u64.wrap (IntKind.i64.wrap (n - 1))).tmod (points : Int) = IntKind.u64.wrap (IntKind.i64.wrap (n - 1)) % (points : Int) := Int.tmod_eq_emod_of_nonneg u1.1
  have hmod1 := Int.emod_nonneg (IntKind.u64.wrap (IntKind.i64.wrap (n - 1))) hp1
  have hmod2 := Int.emod_lt_of_pos (IntKind.u64.wrap (IntKind.i64.wrap (n - 1))) (show (0 : Int) < (points : Int) by omega)
  have hPI : 1 + IntKind.u64.wrap (IntKind.i64.wrap (n - 1)) % (points : Int) = (P : Int) := by
    rw [hP]; unfold tameP uM; omega
  have w3 : IntKind.i64.wrap (IntKind.u64.wrap (IntKind.i64.wrap (n - 1)) % (points : Int)) = IntKind.u64.wrap (IntKind.i64.wrap (n - 1)) % (points : Int) := wrap_i64 (by omega) (by omega)
  have w4 : IntKind.i64.wrap (P : Int) = (P : Int) := wrap_i64 (by omega) (by omega)
  rw [← hP, ← hR]
  unfold edS
  simp
  intro b3 hb3
  simp
  intro b6 hb6
  simp at hb6
  simp [hb6, w2, hp1, hpN, htm, w3, hPI, w4]
  intro b7 hb7
  simp at hb7
  simp [hb6, hb7, splice]
  have hPne : ¬ (P : Int) = 0 := by omega
  have hPn0 : ¬ P = 0 := by omega
  have uP : IntKind.u64.wrap (P : Int) = (P : Int) := wrap_u64 (by omega) (by omega)
  refine awp_loop_g (γ := At2) (fun q t h => (q.i ≤ l.length) ∧ ((q.o = none ↔ q.l = []) ∧ ¬ q.o = some b3 ∧ ¬ q.o = some b6 ∧ ¬ q.o = some b7) ∧ (R = tameE P most q.l (l.drop q.i)) ∧ (q.l.length ≤ most ∧ GOk P q.l) ∧ t 2 = .int .i64 most ∧ t 3 = .ptr b3 0 ∧ t 6 = .ptr b6 0 ∧ t 7 = .ptr b7 0 ∧ t 8 = .int .i64 q.i ∧ h = (((AHeap.empty.upd b3 (.cells [.int .i64 n, .sl l.length (edC l)])).upd b6 (.cells [.int .i64 0, .nilsl])).upd b7 (.cells [.int .i64 P, ownV q.o q.l.length 2])).updO q.o (edC q.l)) (fun q => l.length - q.i) (⟨0, none, []⟩) (turnA_self (by simp [hb6, hb7, GOk.nil]; exact hR)) ?_
  rintro q t hx ⟨hi, ho, hr, hg, h2, h3, h6, h7, h8, ex⟩
  rw [ex]
  clear ex
  obtain ⟨i, o, L⟩ := q
  simp only at h2 h3 h6 h7 h8 hi ho hr hg
  obtain ⟨ho1, ho2, ho3, ho4⟩ := ho
  obtain ⟨hLm, hLg⟩ := hg
  have hlenL : ∀ h, lenA Try.prog h 42 (.sl l.length (edC l)) = some (.int .i64 (l.length : Int)) := fun h => by simp
  have hlenO : ∀ h, lenA Try.prog h 42 (ownV o L.length 2) = some (.int .i64 (L.length : Int)) := by
    intro h
    cases o with
    | none => rw [ho1.1 rfl]; simp
    | some b => simp
  have fin : finA (fun r' _ => r' = gV P L) (.agg [.int .i64 P, ownV o L.length 2]) ((((AHeap.empty.upd b3 (.cells [.int .i64 n, .sl l.length (edC l)])).upd b6 (.cells [.int .i64 P, ownV o L.length 2])).upd b7 (.cells [.int .i64 P, ownV o L.length 2])).updO o (edC L)) := by
    cases o with
    | none =>
      refine finA_drop ?_
      rw [ho1.1 rfl]
      rfl
    | some b =>
      have hne : ¬ L = [] := fun e => nomatch ho1.2 e
      refine finA_all 3 ?_
      rw [frz_agg]
      simp only [List.map_cons, List.map_nil, ownV_some, updO_some]
      rw [frz_osl (by simp)]
      simp [gV, edL, hne]
      rw [map_frozen edC_frozen]
      exact List.take_of_length_le (by simp)
  by_cases hlt : i < l.length
  · have hwi : IntKind.i64.wrap ((i : Int) + 1) = (i : Int) + 1 := wrap_i64 (by omega) (by omega)
    have hltI : (i : Int) < (l.length : Int) := by omega
    obtain ⟨x, hx⟩ : ∃ x, l[i]? = some x := ⟨_, List.getElem?_eq_getElem hlt⟩
    have hat := edC_at hx
    have hdr : l.drop i = x :: l.drop (i + 1) := by
      rw [List.drop_eq_getElem_cons hlt]; congr 1
      have := List.getElem?_eq_getElem hlt; rw [hx] at this; exact (Option.some.inj this).symm
    rw [hdr, tameE] at hr
    by_cases hlm : L.length < most
    · have hlmI : (L.length : Int) < (most : Int) := by omega
      rw [if_pos hlm] at hr
      simp [h2, h3, h6, h7, h8, hlt, hltI, hb6, hb7, ho2, ho3, ho4, hlenO, hlenL, hlmI, hlm, -lenA]
      refine awp_draw_text (by kernel_rfl) [] [] (by kernel_rfl) (by kernel_rfl) (by simp) ?_
      have ua := u64_nonneg x.1
      have ub := u64_nonneg x.2
      obtain ⟨A, hA⟩ : ∃ A : Nat, IntKind.u64.wrap x.1 % (P : Int) = A := ⟨(IntKind.u64.wrap x.1 % (P : Int)).toNat, by have := Int.emod_nonneg (IntKind.u64.wrap x.1) hPne; omega⟩
      obtain ⟨B, hB⟩ : ∃ B : Nat, IntKind.u64.wrap x.2 % (P : Int) = B := ⟨(IntKind.u64.wrap x.2 % (P : Int)).toNat, by have := Int.emod_nonneg (IntKind.u64.wrap x.2) hPne; omega⟩
      have hA2 : A < P := by have := Int.emod_lt_of_pos (IntKind.u64.wrap x.1) (show (0 : Int) < P by omega); omega
      have hB2 : B < P := by have := Int.emod_lt_of_pos (IntKind.u64.wrap x.2) (show (0 : Int) < P by omega); omega
      have ta : (IntKind.u64.wrap x.1).tmod (P : Int) = A := by rw [Int.tmod_eq_emod_of_nonneg ua.1, hA]
      have tb : (IntKind.u64.wrap x.2).tmod (P : Int) = B := by rw [Int.tmod_eq_emod_of_nonneg ub.1, hB]
      have wA : IntKind.i64.wrap (A : Int) = A := wrap_i64 (by omega) (by omega)
      have wB : IntKind.i64.wrap (B : Int) = B := wrap_i64 (by omega) (by omega)
      rw [show uM x.1 % (P : Int) = (A : Int) from hA, show uM x.2 % (P : Int) = (B : Int) from hB] at hr
      simp [h2, h3, h6, h7, h8, hlt, hltI, hat, hb6, hb7, ho2, ho3, ho4, uP, ta, tb, wA, wB, hPne, hPn0]
      by_cases hAB : A = B
      · have hABI : (A : Int) = (B : Int) := by omega
        rw [if_pos (.inl hABI)] at hr
        simp [h2, h3, h6, h7, h8, hAB]
        exact turnA_self ⟨⟨i + 1, o, L⟩, by simp only; omega, by simp only; omega, ⟨ho1, ho2, ho3, ho4⟩, hr, ⟨hLm, hLg⟩, by simp [h2, h3, h6, h7, h8, hwi]⟩
      · have hABI : ¬ (A : Int) = (B : Int) := by omega
        simp [h2, h3, h6, h7, h8, hAB, hABI, hb6, hb7, ho2, ho3, ho4]
        refine (l_JoinedO P L o A B _ (by omega) ho1 (fun y e => by subst e; simp)).use ?_
        obtain ⟨J, hJ⟩ : ∃ J, joinB L A B = J := ⟨_, rfl⟩
        rw [hJ] at hr
        simp [h2, h3, h6, h7, h8, hJ]
        cases J with
        | true =>
          rw [if_pos (.inr rfl)] at hr
          simp [h2, h3, h6, h7, h8]
          exact turnA_self ⟨⟨i + 1, o, L⟩, by simp only; omega, by simp only; omega, ⟨ho1, ho2, ho3, ho4⟩, hr, ⟨hLm, hLg⟩, by simp [h2, h3, h6, h7, h8, hwi]⟩
        | false =>
          rw [if_neg (by simp [hABI])] at hr
          have hsn : GOk P (L ++ [((A : Int), (B : Int))]) := GOk.snoc.2 ⟨hLg, ⟨by simp only; omega, by simp only; omega, by simp only; omega, by simp only; omega, hABI⟩, fun y hy q => by
            have := joinB_iff.2 ⟨y, hy, q⟩
            rw [hJ] at this; cases this⟩
          have hz : zcells [.int .i64 0, .int .i64 0] 1 = [.int .i64 0, .int .i64 0] := rfl
          simp [h2, h3, h6, h7, h8, hb6, hb7, ho2, ho3, ho4, splice, hz]
          intro b14 hb14
          simp [hb6, hb7, ho2, ho3, ho4] at hb14
          simp [h2, h3, h6, h7, h8, hb14, hb6, hb7, ho2, ho3, ho4]
          refine appendA_updO (by omega) (by omega) (fun e => by rw [ho1.1 e]; rfl) (by simp) (by simp) (by cases o with | none => simp | some b => simp at hb14 ho2 ho3 ho4 ⊢; grind) fun b' hb' => ?_
          simp [hb14, hb6, hb7, ho2, ho3, ho4] at hb'
          simp [h2, h3, h6, h7, h8, hb', hb14, hb6, hb7, ho2, ho3, ho4]
          have hts : edC L ++ [.int .i64 (A : Int), .int .i64 (B : Int)] = edC (L ++ [((A : Int), (B : Int))]) := by simp
          rw [hts]
          refine turnA_to ((((AHeap.empty.upd b3 (.cells [.int .i64 n, .sl l.length (edC l)])).upd b6 (.cells [.int .i64 0, .nilsl])).upd b7 (.cells [.int .i64 P, .osl b' 0 (L.length + 1) 2])).updO (some b') (edC (L ++ [((A : Int), (B : Int))]))) ?_ ⟨⟨i + 1, some b', L ++ [((A : Int), (B : Int))]⟩, by simp only; omega, by simp only; omega, ⟨by simp, by simp [hb'], by simp [hb'], by simp [hb']⟩, hr, ⟨by simp; omega, hsn⟩, by simp [h2, h3, h6, h7, h8, hwi]⟩
          simp
          exact Drop.both (Drop.new (Drop.refl _) (by simp [hb14]))
    · have hlmI : ¬ (L.length : Int) < (most : Int) := by omega
      rw [if_neg hlm] at hr
      simp [h2, h3, h6, h7, h8, hlt, hltI, hb6, hb7, ho2, ho3, ho4, hlenO, hlenL, hlmI, hlm, -lenA]
      rw [hr]
      exact fin
  · obtain rfl : i = l.length := by omega
    rw [List.drop_length, tameE] at hr
    simp [h2, h3, h6, h7, h8, hb6, hb7, ho2, ho3, ho4]
    rw [hr]
    exact fin
end Go.Proofs

end
