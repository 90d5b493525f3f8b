/-
  Pair: whether anything is a graph, by the program.
-/
import Derived.Test.YtkdhgablioljnaaPaC
set_option linter.unusedSimpArgs false
set_option linter.unusedVariables false
set_option linter.unusedSectionVars false
namespace Go.Proofs
open Go Go.AH
set_option maxRecDepth 10000
set_option maxHeartbeats 4000000

def mnE (e : Ed) : Int := if e.2 < e.1 then e.2 else e.1
def mxE (e : Ed) : Int := if e.1 < e.2 then e.2 else e.1
def keyE (e : Ed) : AV := .agg [.int .i64 (mnE e), .int .i64 (mxE e)]
theorem sameE_iff {x y : Ed} : sameE x y ↔ mnE x = mnE y ∧ mxE x = mxE y := by
  unfold sameE mnE mxE
  constructor
  · rintro (⟨h1, h2⟩ | ⟨h1, h2⟩) <;> rw [h1, h2]
    · exact ⟨rfl, rfl⟩
    · constructor <;> (repeat' split) <;> omega
  · rintro ⟨h1, h2⟩
    repeat' split at h1
    all_goals (repeat' split at h2)
    all_goals omega
/-- The edges, as the keys of a map. -/
noncomputable def edM (l : List Ed) : List (AV × AV) := l.map fun e => (keyE e, .bool true)
theorem edM_get {a b : Int} : ∀ l : List Ed, mapGet (edM l) (.agg [.int .i64 a, .int .i64 b]) = if l.any (fun e => decide (mnE e = a) && decide (mxE e = b)) then some (.bool true) else none
  | [] => rfl
  | y :: l => by
    have ih := edM_get (a := a) (b := b) l
    unfold edM at ih ⊢
    simp only [List.map_cons, mapGet, List.any_cons]
    by_cases e : mnE y = a ∧ mxE y = b
    · rw [if_pos (by unfold keyE; rw [e.1, e.2])]
      simp [e.1, e.2]
    · have e1 : ¬ keyE y = .agg [.int .i64 a, .int .i64 b] := fun q => e (by unfold keyE at q; simpa using q)
      rw [if_neg e1, ih]
      have e2 : (decide (mnE y = a) && decide (mxE y = b)) = false := by simpa using e
      simp only [e2, Bool.false_or]
theorem edM_set {x : Ed} {l : List Ed} (h : ∀ y ∈ l, ¬ sameE y x) : mapSet (edM l) (keyE x) (.bool true) = edM (l ++ [x]) := by
  have := edM_get (a := mnE x) (b := mxE x) l
  rw [if_neg (by
    intro q
    obtain ⟨y, hy, q⟩ := List.any_eq_true.1 q
    simp at q
    exact h y hy (sameE_iff.2 q))] at this
  rw [keyE, mapSet_none this]
  simp [edM, keyE]
abbrev edSh : KShape := .many [.i .i64, .i .i64]

theorem w_Check (n : Int) (l : List Ed) (hl : l.length ≤ 1000000) : Pure Try.prog 46 [gV n l] (.int .i64 (chkG n l)) := by
  refine pure_of (acalls_of Try.func46 rfl Try.call46 (by kernel_rfl) (by show _ ≤ (65 : Nat); simp) ?_)
  obtain ⟨r, hr⟩ : ∃ r, r = chkG n l := ⟨_, rfl⟩
  rw [← hr]
  obtain ⟨V, hV⟩ : ∃ V, V = edL l := ⟨_, rfl⟩
  have hV1 : V.one = true := by rw [hV]; simp
  have hV2 : V.fit = true := by rw [hV]; simp
  have hV3 : V.cells = [V] := by rw [hV]; simp
  have hlen : ∀ h : AHeap, lenA Try.prog h 42 V = some (.int .i64 (l.length : Int)) := fun h => by rw [hV]; exact lenA_edL l
  rw [show gV n l = .agg [.int .i64 n, V] from by rw [hV]; rfl]
  simp [hV1, hV2, hV3]
  intro b1 hb1
  simp
  by_cases c1 : n < 1
  · have : r = 40 := by rw [hr]; exact chk_bad (by omega)
    simp [c1]
    exact finA_drop (by rw [this])
  by_cases c2 : 40 < n
  · have : r = 40 := by rw [hr]; exact chk_bad (by omega)
    simp [c1, c2]
    exact finA_drop (by rw [this])
  by_cases c3 : 300 < l.length
  · have : r = 40 := by rw [hr]; exact chk_bad (by omega)
    have c3I : (300 : Int) < (l.length : Int) := by omega
    simp [c1, c2, c3, c3I, -lenA, hlen]
    exact finA_drop (by rw [this])
  have c3I : ¬ (300 : Int) < (l.length : Int) := by omega
  simp [c1, c2, c3, c3I, -lenA, hlen]
  intro bm hbm
  simp at hbm
  simp [hbm, -lenA, hlen]
  refine awp_loop_g (γ := Nat) (fun i t h => (i ≤ l.length) ∧ (GOk n (l.take i)) ∧ t 1 = .ptr b1 0 ∧ t 3 = .map bm ∧ t 23 = V ∧ t 24 = .int .i64 l.length ∧ t 25 = .int .i64 i ∧ h = (AHeap.empty.upd b1 (.cells [.int .i64 n, V])).upd bm (.map edSh (edM (l.take i)))) (fun i => l.length - i) (0) (turnA_self (by simp [GOk.nil, edM, hbm])) ?_
  rintro i t h ⟨hi, hg, h1, h3, h23, h24, h25, rfl⟩
  by_cases hlt : i < l.length
  · have hltI : (i : Int) < (l.length : Int) := by omega
    have hwi : IntKind.i64.wrap ((i : Int) + 1) = (i : Int) + 1 := wrap_i64 (by omega) (by omega)
    have hVs : V = .sl l.length (edC l) := by rw [hV]; exact edL_ne hlt
    obtain ⟨x, hx⟩ : ∃ x, l[i]? = some x := ⟨_, List.getElem?_eq_getElem hlt⟩
    have hat := edC_at hx
    have hi3 : 2 ≤ l.length * 2 - i * 2 := by omega
    have hi4 : min 2 (l.length * 2 - i * 2) = 2 := by omega
    have hz : zcells [.int .i64 0, .int .i64 0] 1 = [.int .i64 0, .int .i64 0] := rfl
    rw [hVs] at hV1 hV2 hV3 hlen ⊢
    have hbad : ¬ edOk n x → r = 40 := fun q => by rw [hr]; exact chk_bad (fun z => bad_edge hx q z.2.2.2)
    have hmn : (if x.2 < x.1 then x.2 else x.1) = mnE x := rfl
    have hmx : (if x.1 < x.2 then x.2 else x.1) = mxE x := rfl
    simp [h1, h3, h23, h24, h25, hVs, hlt, hltI, hat, hi3, hi4]
    intro b5 hb5
    simp [hbm] at hb5
    simp [h1, h3, h23, h24, h25, hb5, hbm, hmn, hmx, splice]
    intro b6 hb6
    simp [hbm, hb5] at hb6
    simp [h1, h3, h23, h24, h25, hb6, hb5, hbm, splice]
    by_cases d1 : mnE x < 0
    · have := hbad (fun q => by unfold edOk at q; unfold mnE at d1; split at d1 <;> omega)
      simp [h1, h3, h23, h24, h25, hb6, hb5, hbm, d1]
      exact finA_drop (by rw [this])
    by_cases d2 : n ≤ mxE x
    · have := hbad (fun q => by unfold edOk at q; unfold mxE at d2; split at d2 <;> omega)
      simp [h1, h3, h23, h24, h25, hb6, hb5, hbm, d1, d2]
      exact finA_drop (by rw [this])
    by_cases d3 : mnE x = mxE x
    · have := hbad (fun q => by
        unfold edOk at q; unfold mnE mxE at d3
        split at d3 <;> split at d3 <;> omega)
      have d1' : ¬ mxE x < 0 := d3 ▸ d1
      simp [h1, h3, h23, h24, h25, hb6, hb5, hbm, d1, d1', d2, d3]
      exact finA_drop (by rw [this])
    have hok : edOk n x := by
      unfold edOk
      unfold mnE at d1 d3
      unfold mxE at d2 d3
      refine ⟨?_, ?_, ?_, ?_, ?_⟩
      · split at d1 <;> omega
      · split at d2 <;> omega
      · split at d1 <;> omega
      · split at d2 <;> omega
      · intro e
        rw [e] at d3
        exact d3 rfl
    obtain ⟨B, hB⟩ : ∃ B, (l.take i).any (fun e => decide (mnE e = mnE x) && decide (mxE e = mxE x)) = B := ⟨_, rfl⟩
    have hget := edM_get (a := mnE x) (b := mxE x) (l.take i)
    rw [hB] at hget
    simp [h1, h3, h23, h24, h25, hb6, hb5, hbm, d1, d2, d3, hget]
    cases B with
    | true =>
      have : r = 40 := by
        rw [hr]
        refine chk_bad (fun z => ?_)
        obtain ⟨y, hy, q⟩ := List.any_eq_true.1 hB
        simp at q
        obtain ⟨k, hk, e⟩ := List.mem_take_iff_getElem.1 hy
        exact bad_same (k := k) hx (by rw [List.getElem?_eq_getElem (by omega), e]) (by omega) (sameE_iff.2 q) z.2.2.2
      simp [h1, h3, h23, h24, h25]
      exact finA_drop (by rw [this])
    | false =>
      have hn : ∀ y ∈ l.take i, ¬ sameE y x := fun y hy q => by
        have := List.any_eq_false.1 hB y hy
        simp at this
        have q := sameE_iff.1 q
        exact this q.1 q.2
      have hset := edM_set hn
      rw [← take_snoc hx] at hset
      unfold keyE at hset
      simp [h1, h3, h23, h24, h25, hb6, hb5, hbm, hset]
      refine turnA_to ((AHeap.empty.upd b1 (.cells [.int .i64 n, .sl l.length (edC l)])).upd bm (.map edSh (edM (l.take (i + 1))))) ?_ ⟨i + 1, by omega, by omega, by rw [take_snoc hx]; exact GOk.snoc.2 ⟨hg, hok, hn⟩, by simp [h1, h3, h23, h24, h25, hwi, hVs]⟩
      exact Drop.new (Drop.new (Drop.refl _) (by simp [hb5])) (by simp [hb6])
  · obtain rfl : i = l.length := by omega
    rw [List.take_length] at hg
    have : r = 0 := by rw [hr]; exact chk_good (by omega) (by omega) (by omega) hg
    simp [h1, h3, h23, h24, h25, -lenA, hlen]
    exact finA_drop (by rw [this])
end Go.Proofs
