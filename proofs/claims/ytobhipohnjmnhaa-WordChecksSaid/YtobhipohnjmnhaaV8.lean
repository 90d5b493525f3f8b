/-
  Texts: WdRL0 WdRL.
-/
import Derived.Test.YtobhipohnjmnhaaV3
set_option linter.unusedSimpArgs false
set_option linter.unusedVariables false
set_option linter.unusedSectionVars false
section
/-
  Plain laws: classes of states that no word parts, refined step by step, whatever the numbers; the machine of such classes is the least one.
-/
namespace Go.Proofs
open Go Go.AH
set_option maxRecDepth 10000
set_option maxHeartbeats 4000000

theorem sgn_iff (m : Dfa) (hm : m.wf) (c : List Nat) (s t : Nat) : sgnF m c s = sgnF m c t ↔ c.getD s 0 = c.getD t 0 ∧ ∀ i, i < m.k → c.getD (nx m s i) 0 = c.getD (nx m t i) 0 := by
  have hk := hm.k4
  simp only [sgnF, List.cons.injEq]
  constructor
  · rintro ⟨h1, h2⟩
    refine ⟨by omega, fun i hi => ?_⟩
    have := congrArg (fun l => l[i]?) h2
    simp only [List.getElem?_map, List.getElem?_range (show i < 4 by omega), Option.map_some, hi, if_true, Option.some.injEq] at this
    simp only [nx]; omega
  · rintro ⟨h1, h2⟩
    refine ⟨by omega, List.map_congr_left fun i _ => ?_⟩
    by_cases hi : i < m.k
    · have := h2 i hi
      simp only [nx] at this
      simp only [hi, if_true, this]
    · simp only [hi, if_false]

/-- Classes on the way: alike are good alike, what no word parts is in one class; they are numbered by something. -/
structure Way (m : Dfa) (c : List Nat) (many : Nat) : Prop where
  len : c.length = m.next.length
  fine : ∀ s t, s < m.next.length → t < m.next.length → c.getD s 0 = c.getD t 0 → m.good.getD s false = m.good.getD t false
  coarse : ∀ s t, s < m.next.length → t < m.next.length → (∀ w, Ok m.k w → m.good.getD (goW m s w) false = m.good.getD (goW m t w) false) → c.getD s 0 = c.getD t 0
  num : many = 0 ∨ ∃ κ : Nat → List Int, c = clsF κ m.next.length ∧ many = (ddF κ m.next.length).length
/-- The end: no letter parts a class. -/
structure Fin (m : Dfa) (c : List Nat) (many : Nat) : Prop where
  len : c.length = m.next.length
  fine : ∀ s t, s < m.next.length → t < m.next.length → c.getD s 0 = c.getD t 0 → m.good.getD s false = m.good.getD t false
  coarse : ∀ s t, s < m.next.length → t < m.next.length → (∀ w, Ok m.k w → m.good.getD (goW m s w) false = m.good.getD (goW m t w) false) → c.getD s 0 = c.getD t 0
  lt : ∀ s, s < m.next.length → c.getD s 0 < many
  le : many ≤ m.next.length
  stable : ∀ s t, s < m.next.length → t < m.next.length → c.getD s 0 = c.getD t 0 → ∀ i, i < m.k → c.getD (nx m s i) 0 = c.getD (nx m t i) 0

theorem Way.next {m : Dfa} (hm : m.wf) {c : List Nat} {many : Nat} (w : Way m c many) : Way m (clsF (sgnF m c) m.next.length) (ddF (sgnF m c) m.next.length).length := by
  have e := fun s t hs ht => clsF_eq (sgnF m c) m.next.length s t hs ht
  refine ⟨clsF_len _ _, fun s t hs ht h => ?_, fun s t hs ht h => ?_, .inr ⟨_, rfl, rfl⟩⟩
  · exact w.fine s t hs ht ((sgn_iff m hm c s t).1 ((e s t hs ht).1 h)).1
  · refine (e s t hs ht).2 ((sgn_iff m hm c s t).2 ⟨w.coarse s t hs ht h, fun i hi => w.coarse _ _ (nx_lt hm hs hi) (nx_lt hm ht hi) fun v hv => ?_⟩)
    have := h (i :: v) fun j hj => by
      rcases List.mem_cons.1 hj with rfl | hj
      · exact hi
      · exact hv j hj
    exact this
theorem Way.pos {m : Dfa} (hm : m.wf) (κ : Nat → List Int) : 0 < (ddF κ m.next.length).length := by
  have h0 : 0 < m.next.length := by have := hm.n1; omega
  have := (mem_ddF κ (κ 0) m.next.length).2 ⟨0, h0, rfl⟩
  exact List.length_pos_of_mem this
theorem Way.le {m : Dfa} (hm : m.wf) {c : List Nat} {many : Nat} (w : Way m c many) : many ≤ (ddF (sgnF m c) m.next.length).length := by
  rcases w.num with rfl | ⟨κ, hc, rfl⟩
  · omega
  · refine ddF_fine κ (sgnF m c) m.next.length fun s t hs ht h => ?_
    have := ((sgn_iff m hm c s t).1 h).1
    rw [hc] at this
    exact (clsF_eq κ _ s t hs ht).1 this
theorem Way.fin {m : Dfa} (hm : m.wf) {c : List Nat} {many : Nat} (w : Way m c many) (he : (ddF (sgnF m c) m.next.length).length = many) : Fin m (clsF (sgnF m c) m.next.length) many := by
  have n := w.next hm
  have e := fun s t hs ht => clsF_eq (sgnF m c) m.next.length s t hs ht
  refine ⟨n.len, n.fine, n.coarse, fun s hs => by rw [← he]; exact clsF_lt _ _ s hs, by rw [← he]; exact ddF_le _ _, fun s t hs ht h i hi => ?_⟩
  have h1 := ((sgn_iff m hm c s t).1 ((e s t hs ht).1 h)).2 i hi
  refine (e _ _ (nx_lt hm hs hi) (nx_lt hm ht hi)).2 ?_
  rcases w.num with h0 | ⟨κ, hc, hmany⟩
  · have := Way.pos hm (sgnF m c); omega
  · refine ddF_same κ (sgnF m c) m.next.length (fun s t hs ht h => ?_) (by omega) _ _ (nx_lt hm hs hi) (nx_lt hm ht hi) ?_
    · have := ((sgn_iff m hm c s t).1 h).1
      rw [hc] at this
      exact (clsF_eq κ _ s t hs ht).1 this
    · rw [hc] at h1
      exact (clsF_eq κ _ _ _ (nx_lt hm hs hi) (nx_lt hm ht hi)).1 h1

open Classical in
noncomputable def repF (m : Dfa) (c : List Nat) (x : Nat) : Nat := if h : ∃ s, s < m.next.length ∧ c.getD s 0 = x then Classical.choose h else 0
noncomputable def clN (m : Dfa) (c : List Nat) (x i : Nat) : Nat := c.getD (nx m (repF m c x) i) 0
theorem clN_eq {m : Dfa} {c : List Nat} {many : Nat} (f : Fin m c many) {s : Nat} (hs : s < m.next.length) {i : Nat} (hi : i < m.k) : clN m c (c.getD s 0) i = c.getD (nx m s i) 0 := by
  have h : ∃ r, r < m.next.length ∧ c.getD r 0 = c.getD s 0 := ⟨s, hs, rfl⟩
  have e : repF m c (c.getD s 0) = Classical.choose h := by unfold repF; rw [dif_pos h]
  obtain ⟨h1, h2⟩ := Classical.choose_spec h
  unfold clN
  rw [e]
  exact f.stable _ _ h1 hs h2 i hi

theorem fin_least {m : Dfa} (hm : m.wf) {c : List Nat} {many : Nat} (f : Fin m c many) (states : List Nat) (rows : List (List Nat)) (F : Nat) (hst : ∀ s ∈ states, s < m.next.length)
    (h1 : ∀ a st, a < F → rIter (clN m c) (-1) m.k (c.getD 0 0) a = some st → a < st.1.length) (h2 : states.length = F) (e : rIter (clN m c) (-1) m.k (c.getD 0 0) F = some (states.map fun s => c.getD s 0, rows)) :
    (Dfa.mk m.k rows (states.map fun s => m.good.getD s false)) = leastF m := by
  have h0 : 0 < m.next.length := by have := hm.n1; omega
  have hl : (states.map fun s => c.getD s 0).length = F := by simp [h2]
  have hrn := rIter_rows _ _ _ _ F _ h1 e
  have hro := rIter_rowsok _ _ _ _ F _ e
  obtain ⟨v1, v2⟩ := rIter_val _ _ _ _ F _ h1 e
  have hlen := rIter_len _ _ _ _ F _ e
  have hbf := rIter_bf _ _ _ _ F _ h1 hl e (states.map fun s => m.good.getD s false)
  have hinv := rIter_inv (clN m c) (-1) (fun x => ∃ s, s < m.next.length ∧ c.getD s 0 = x) m.k (fun x i hx hi => by
    obtain ⟨s, hs, rfl⟩ := hx
    exact ⟨nx m s i, nx_lt hm hs hi, (clN_eq f hs hi).symm⟩) (c.getD 0 0) ⟨0, h0, rfl⟩ F _ e
  simp only at hrn hro v1 v2 hlen hinv hbf
  have hFn : F ≤ m.next.length := by
    have := nodup_lt many _ hinv.1 fun x hx => by obtain ⟨s, hs, rfl⟩ := hinv.2 x hx; exact f.lt s hs
    rw [hl] at this; have := f.le; omega
  have hwf : (Dfa.mk m.k rows (states.map fun s => m.good.getD s false)).wf := ⟨hm.k1, hm.k4, by simp only; omega, by simp only; have := hm.nmax; omega, by simp; omega, fun r hr => (hro r hr).1, fun r hr x hx => by have := (hro r hr).2 x hx; simp only; omega⟩
  -- states of m and of the machine
  have go : ∀ (w : List Nat) (s j : Nat), Ok m.k w → s < m.next.length → (states.map fun s => c.getD s 0)[j]? = some (c.getD s 0) → goW m s w < m.next.length ∧ (states.map fun s => c.getD s 0)[goW ⟨m.k, rows, states.map fun s => m.good.getD s false⟩ j w]? = some (c.getD (goW m s w) 0) := by
    intro w
    induction w with
    | nil => intro s j _ hs hj; exact ⟨hs, hj⟩
    | cons i w ih =>
      intro s j hw hs hj
      have hi := hw i (by simp)
      obtain ⟨x, q1, q2⟩ := v2 j (by have := (List.getElem?_eq_some_iff.1 hj).1; omega) i hi
      rw [hj] at q1; cases q1
      rw [clN_eq f hs hi] at q2
      exact ih (nx m s i) _ (fun q hq => hw q (by simp [hq])) (nx_lt hm hs hi) q2
  have good : ∀ (s j : Nat), s < m.next.length → (states.map fun s => c.getD s 0)[j]? = some (c.getD s 0) → (states.map fun s => m.good.getD s false).getD j false = m.good.getD s false := by
    intro s j hs hj
    rw [List.getElem?_map] at hj
    obtain ⟨r, hr, hrc⟩ := Option.map_eq_some_iff.1 hj
    have := f.fine r s (hst r (List.mem_of_getElem? hr)) hs hrc
    simp only [List.getD_eq_getElem?_getD, List.getElem?_map, hr, Option.map_some, Option.getD_some] at this ⊢
    exact this
  refine Canon.least ⟨hwf, hbf, fun s t hs ht h => ?_⟩ hm rfl fun w hw => ?_
  · obtain ⟨u, hu, eu⟩ := hbf.word hs
    obtain ⟨v, hv, ev⟩ := hbf.word ht
    obtain ⟨a1, a2⟩ := go u 0 0 hu h0 v1
    obtain ⟨b1, b2⟩ := go v 0 0 hv h0 v1
    rw [eu] at a2
    rw [ev] at b2
    have ec : c.getD (goW m 0 u) 0 = c.getD (goW m 0 v) 0 := f.coarse _ _ a1 b1 fun w hw => by
      obtain ⟨c1, c2⟩ := go w _ _ hw a1 a2
      obtain ⟨d1, d2⟩ := go w _ _ hw b1 b2
      rw [← good _ _ c1 c2, ← good _ _ d1 d2]
      exact h w hw
    rw [ec] at a2
    have hsl := (List.getElem?_eq_some_iff.1 a2).1
    have htl := (List.getElem?_eq_some_iff.1 b2).1
    rw [List.getElem?_eq_getElem hsl] at a2
    rw [List.getElem?_eq_getElem htl] at b2
    exact (List.getElem_inj hinv.1).1 (Option.some.inj (a2.trans b2.symm))
  · obtain ⟨a1, a2⟩ := go w 0 0 hw h0 v1
    exact good _ _ a1 a2
end Go.Proofs

end

section
/-
  Walk: the reference's least automaton: its classes.
-/
namespace Go.Proofs
open Go Go.AH
set_option maxRecDepth 10000
set_option maxHeartbeats 8000000

def indL (m : Dfa) (s : Nat) : List Nat := (List.range m.next.length).map fun j => if j < s ∧ m.good.getD j false = true then 1 else 0
@[simp] theorem indL_len (m : Dfa) (s : Nat) : (indL m s).length = m.next.length := by simp [indL]
theorem indL_zero (m : Dfa) : indL m 0 = List.replicate m.next.length 0 := by
  refine List.ext_getElem (by simp) fun j h1 h2 => ?_
  simp [indL]
theorem indL_succ (m : Dfa) (s : Nat) (hs : s < m.next.length) : indL m (s + 1) = if m.good.getD s false = true then (indL m s).set s 1 else indL m s := by
  refine List.ext_getElem (by split <;> simp) fun j h1 h2 => ?_
  by_cases hg : m.good.getD s false = true
  · simp only [hg, if_true, List.getElem_set]
    simp only [indL, List.getElem_map, List.getElem_range]
    by_cases e : s = j
    · subst e; rw [if_pos ⟨by omega, hg⟩, if_pos rfl]
    · rw [if_neg e]
      by_cases h : j < s ∧ m.good.getD j false = true
      · rw [if_pos h, if_pos ⟨by omega, h.2⟩]
      · rw [if_neg h, if_neg (fun q => h ⟨by omega, q.2⟩)]
  · simp only [if_neg hg]
    simp only [indL, List.getElem_map, List.getElem_range]
    by_cases h : j < s ∧ m.good.getD j false = true
    · rw [if_pos h, if_pos ⟨by omega, h.2⟩]
    · rw [if_neg h, if_neg (fun q => h ⟨by
        by_cases e : j = s
        · subst e; exact absurd q.2 hg
        · omega, q.2⟩)]
theorem ind_way {m : Dfa} (_ : m.wf) : Way m (indL m m.next.length) 0 := by
  have hget : ∀ s, s < m.next.length → (indL m m.next.length).getD s 0 = if m.good.getD s false = true then 1 else 0 := fun s hs => by
    simp only [indL, List.getD_eq_getElem?_getD, List.getElem?_map, List.getElem?_range hs, Option.map_some, Option.getD_some, hs, true_and]
  refine ⟨by simp, fun s t hs ht h => ?_, fun s t hs ht h => ?_, .inl rfl⟩
  · rw [hget s hs, hget t ht] at h
    cases h1 : m.good.getD s false <;> cases h2 : m.good.getD t false <;> rw [h1, h2] at h <;> first | rfl | (simp at h)
  · have := h [] Ok.nil
    simp only [goW] at this
    rw [hget s hs, hget t ht, this]

/-- Classes as far as they have been numbered. -/
def nxL (κ : Nat → List Int) (n s : Nat) : List Int := (List.range n).map fun j => if j < s then ((clsF κ s).getD j 0 : Int) else 0
@[simp] theorem nxL_len (κ : Nat → List Int) (n s : Nat) : (nxL κ n s).length = n := by simp [nxL]
theorem nxL_zero (κ : Nat → List Int) (n : Nat) : nxL κ n 0 = List.replicate n 0 := by
  refine List.ext_getElem (by simp) fun j h1 h2 => ?_
  simp [nxL]
theorem nxL_get (κ : Nat → List Int) (n s j : Nat) (hj : j < s) (hs : s ≤ n) (h : j < (nxL κ n s).length) : (nxL κ n s)[j] = (ixF (ddF κ s) (κ j) : Nat) := by
  simp only [nxL, List.getElem_map, List.getElem_range, hj, if_true]
  rw [clsF_get κ s j hj]
theorem nxL_succ (κ : Nat → List Int) (n s : Nat) (hs : s < n) : nxL κ n (s + 1) = (nxL κ n s).set s (ixF (ddF κ (s + 1)) (κ s) : Nat) := by
  have hl := clsF_len κ s
  refine List.ext_getElem (by simp) fun j h1 h2 => ?_
  rw [List.getElem_set]
  simp only [nxL, List.getElem_map, List.getElem_range, clsF]
  by_cases e : s = j
  · subst e
    rw [if_pos (by omega), if_pos rfl]
    simp [List.getD_eq_getElem?_getD, hl]
  · rw [if_neg e]
    by_cases h : j < s
    · rw [if_pos (by omega), if_pos h]
      simp [List.getD_eq_getElem?_getD, List.getElem?_append_left (show j < (clsF κ s).length by omega)]
    · rw [if_neg (by omega), if_neg h]
theorem nxL_end (κ : Nat → List Int) (n : Nat) : nxL κ n n = (clsF κ n).map fun x : Nat => (x : Int) := by
  have hl := clsF_len κ n
  refine List.ext_getElem (by simp [hl]) fun j h1 h2 => ?_
  have : j < n := by simpa using h1
  simp [nxL, this, hl]

/-- The numbers of the classes met so far. -/
def numF (many : Nat) (keys : List Nat) : List Int := (List.range many).map fun x => if x ∈ keys then (ixF keys x : Int) else -1
@[simp] theorem numF_len (many : Nat) (keys : List Nat) : (numF many keys).length = many := by simp [numF]
theorem numF_get (many : Nat) (keys : List Nat) (x : Nat) (h : x < (numF many keys).length) : (numF many keys)[x] = if x ∈ keys then (ixF keys x : Int) else -1 := by simp [numF]
theorem numF_nil (many : Nat) : numF many [] = List.replicate many (-1) := by
  refine List.ext_getElem (by simp) fun j h1 h2 => ?_
  simp [numF]
theorem numF_snoc (many : Nat) (keys : List Nat) (y : Nat) (hy : y ∉ keys) : numF many (keys ++ [y]) = (numF many keys).set y (keys.length : Nat) := by
  refine List.ext_getElem (by simp) fun j h1 h2 => ?_
  rw [List.getElem_set, numF_get]
  by_cases e : y = j
  · subst e
    rw [if_pos (by simp), if_pos rfl]
    simp [ixF, List.idxOf_append, hy]
  · rw [if_neg e, numF_get]
    have e' : ¬ j = y := fun h => e h.symm
    by_cases h : j ∈ keys
    · rw [if_pos (by simp [h]), if_pos h]
      simp [ixF, List.idxOf_append, h]
    · rw [if_neg (by simp [h, e']), if_neg h]
def m1L (many i : Nat) : List Int := (List.range many).map fun j => if j < i then -1 else 0
@[simp] theorem m1L_len (many i : Nat) : (m1L many i).length = many := by simp [m1L]
theorem m1L_zero (many : Nat) : m1L many 0 = List.replicate many 0 := by
  refine List.ext_getElem (by simp) fun j h1 h2 => ?_
  simp [m1L]
theorem m1L_succ (many i : Nat) : m1L many (i + 1) = (m1L many i).set i (-1) := by
  refine List.ext_getElem (by simp) fun j h1 h2 => ?_
  rw [List.getElem_set]
  simp only [m1L, List.getElem_map, List.getElem_range]
  by_cases e : i = j
  · subst e; rw [if_pos (by omega), if_pos rfl]
  · rw [if_neg e]
    by_cases h : j < i
    · rw [if_pos (by omega), if_pos h]
    · rw [if_neg (by omega), if_neg h]
theorem m1L_end (many : Nat) : m1L many many = numF many [] := by
  rw [numF_nil]
  refine List.ext_getElem (by simp) fun j h1 h2 => ?_
  have : j < many := by simpa using h1
  simp [m1L, this]
structure RlE where
  a : Nat
  states : List Nat
  rows : List (List Nat)
  bst : Nat
  on : Option Nat
  og : Option Nat
structure RlR where
  i : Nat
  sts : List Nat
  row : List Nat
  bst : Nat
  r : Option Nat
structure RlG where
  c : List Nat
  many : Nat
  bc : Nat
structure RlT where
  t : Nat
  v : Int
structure RlI where
  i : Nat
  al : Bool

theorem nameH {Q : AHeap → Prop} {h : AHeap} (k : ∀ hX, hX = h → Q hX) : Q h := k h rfl

theorem nameN {cs : Chunk} {K : Nat → AHeap → Prop} {h : AHeap} (k : ∀ hX, hX = h → newA hX cs K) : newA h cs K := k h rfl

theorem w_refLeast (m : Dfa) (hm : m.wf) : Pure Try.prog 28 [m.av] (leastF m).av := by
  refine pure_of (acalls_of Try.func28 rfl Try.call28 (by kernel_rfl) (by show _ ≤ (223 : Nat); simp) ?_)
  have hn1 := hm.n1; have hnm := hm.nmax; have hk4 := hm.k4
  simp [Dfa.av]
  intro b1 hb1
  simp
  intro b2 hb2
  simp at hb2
  simp [hb2, nrowsA]
  refine ⟨by omega, ?_⟩
  intro bc0 hbc0
  simp at hbc0
  simp [hb2, hbc0]
  have hz : (List.replicate m.next.length (AV.int .i64 0)) = (indL m 0).map fun x : Nat => AV.int .i64 (x : Int) := by rw [indL_zero]; simp
  rw [hz]
  clear hz
  refine awp_loop_g (γ := Nat) (fun s t h => (s ≤ m.next.length) ∧ t 1 = .ptr b1 0 ∧ t 2 = .ptr b2 0 ∧ t 3 = .osl bc0 0 m.next.length 1 ∧ t 4 = .int .i64 s ∧ h = ((AHeap.empty.upd b1 (.cells [.int .i64 m.k, .sl m.next.length (m.next.map natsA), boolsA m.good])).upd b2 (.cells [.int .i64 0, .nilsl, .nilsl])).upd bc0 (.cells ((indL m s).map fun x : Nat => AV.int .i64 (x : Int)))) (fun s => m.next.length - s) (0) (turnA_self (by simp)) ?_
  rintro s t h ⟨hs, h1, h2, h3, h4, rfl⟩
  by_cases hlt : s < m.next.length
  · have hw : IntKind.i64.wrap ((s : Int) + 1) = (s : Int) + 1 := wrap_i64 (by omega) (by omega)
    have hsg : s < m.good.length := by rw [hm.gl]; exact hlt
    have hsucc := indL_succ m s hlt
    have hgd : m.good.getD s false = m.good[s] := by simp [hsg]
    rw [hgd] at hsucc
    simp [h1, h2, h3, h4, hb2, hbc0, hlt, boolsA, hsg]
    refine condA_case ?_ ?_
    · intro hg
      rw [if_pos hg] at hsucc
      simp [h1, h2, h3, h4, hb2, hbc0, hlt, hw]
      exact ⟨by omega, turnA_self ⟨s + 1, by omega, by omega, by simp [h1, h2, h3, h4, hsucc, List.map_set, boolsA]⟩⟩
    · intro hg
      rw [if_neg (by simp [hg])] at hsucc
      simp [h1, h2, h3, h4, hb2, hbc0, hlt, hw]
      exact turnA_self ⟨s + 1, by omega, by omega, by simp [h1, h2, h3, h4, hsucc, boolsA]⟩
  · obtain rfl : s = m.next.length := by omega
    simp [h1, h2, h3, h4, hb2, hbc0]
    have hway := ind_way hm
    generalize indL m m.next.length = c0 at hway
    refine awp_loop_g (γ := RlG) (fun g t h => (Way m g.c g.many) ∧ (∀ off, cellsAt h b1 off = some (([.int .i64 (m.k : Int), .sl m.next.length (m.next.map natsA), boolsA m.good] : List AV).drop off)) ∧ (cellsAt h b2 0 = some [.int .i64 0, .nilsl, .nilsl]) ∧ (∀ off, cellsAt h g.bc off = some ((g.c.map fun x : Nat => AV.int .i64 (x : Int)).drop off)) ∧ t 1 = .ptr b1 0 ∧ t 2 = .ptr b2 0 ∧ t 3 = .osl g.bc 0 m.next.length 1 ∧ t 5 = .int .i64 g.many) (fun g => m.next.length - g.many) (⟨c0, 0, bc0⟩) (turnA_self (by simp [h1, h2, h3, h4, hway, hb2, hbc0])) ?_
    rintro g t h ⟨hw, hc1, hc2, hcc, h1, h2, h3, h5⟩
    obtain ⟨c, many, bc⟩ := g
    simp only at h1 h2 h3 h5 hw hcc
    have hcl := hw.len
    simp [h1, h2, h3, h5]
    refine ⟨by omega, ?_⟩
    intro bn hbn
    have x1 := ne_fresh (hc1 0) hbn; have x2 := ne_fresh hc2 hbn; have x3 := ne_fresh (hcc 0) hbn
    simp [h1, h2, h3, h5]
    obtain ⟨κ, hκ⟩ : ∃ κ, κ = sgnF m c := ⟨_, rfl⟩
    have hκi : ∀ s t, κ s = κ t ↔ c.getD s 0 = c.getD t 0 ∧ ∀ i, i < m.k → c.getD (nx m s i) 0 = c.getD (nx m t i) 0 := fun s t => by rw [hκ]; exact sgn_iff m hm c s t
    have hz : (List.replicate m.next.length (AV.int .i64 0)) = (nxL κ m.next.length 0).map (AV.int .i64) := by rw [nxL_zero]; simp
    rw [hz]
    clear hz
    refine awp_loop_g (γ := Nat) (fun s t h => (s ≤ m.next.length) ∧ (∀ off, cellsAt h b1 off = some (([.int .i64 (m.k : Int), .sl m.next.length (m.next.map natsA), boolsA m.good] : List AV).drop off)) ∧ (cellsAt h b2 0 = some [.int .i64 0, .nilsl, .nilsl]) ∧ (∀ off, cellsAt h bc off = some ((c.map fun x : Nat => AV.int .i64 (x : Int)).drop off)) ∧ (∀ off, cellsAt h bn off = some (((nxL κ m.next.length s).map (AV.int .i64)).drop off)) ∧ t 1 = .ptr b1 0 ∧ t 2 = .ptr b2 0 ∧ t 3 = .osl bc 0 m.next.length 1 ∧ t 5 = .int .i64 many ∧ t 6 = .osl bn 0 m.next.length 1 ∧ t 7 = .int .i64 (ddF κ s).length ∧ t 8 = .int .i64 s) (fun s => m.next.length - s) (0) (turnA_self (by simp [h1, h2, h3, h5, hc1, hc2, hcc, x1, x2, x3, ddF])) ?_
    rintro s t h ⟨hs, hc1, hc2, hcc, hcn, h1, h2, h3, h5, h6, h7, h8⟩
    have hdl := ddF_le κ s
    by_cases hlt : s < m.next.length
    · have hws : IntKind.i64.wrap ((s : Int) + 1) = (s : Int) + 1 := wrap_i64 (by omega) (by omega)
      have hwn : IntKind.i64.wrap (((ddF κ s).length : Int) + 1) = ((ddF κ s).length : Int) + 1 := wrap_i64 (by omega) (by omega)
      simp [h1, h2, h3, h5, h6, h7, h8, hlt, hcn]
      refine ⟨by omega, ?_⟩
      refine awp_loop_g (γ := RlT) (fun g t h => (g.t ≤ s) ∧ ((g.v = -1 ∧ ∀ r, r < g.t → κ r ≠ κ s) ∨ (κ s ∈ ddF κ s ∧ g.v = (ixF (ddF κ s) (κ s) : Nat))) ∧ (∀ off, cellsAt h b1 off = some (([.int .i64 (m.k : Int), .sl m.next.length (m.next.map natsA), boolsA m.good] : List AV).drop off)) ∧ (cellsAt h b2 0 = some [.int .i64 0, .nilsl, .nilsl]) ∧ (∀ off, cellsAt h bc off = some ((c.map fun x : Nat => AV.int .i64 (x : Int)).drop off)) ∧ (∀ off, cellsAt h bn off = some ((((nxL κ m.next.length s).set s g.v).map (AV.int .i64)).drop off)) ∧ t 1 = .ptr b1 0 ∧ t 2 = .ptr b2 0 ∧ t 3 = .osl bc 0 m.next.length 1 ∧ t 5 = .int .i64 many ∧ t 6 = .osl bn 0 m.next.length 1 ∧ t 7 = .int .i64 (ddF κ s).length ∧ t 8 = .int .i64 s ∧ t 9 = .int .i64 g.t) (fun g => s - g.t) (⟨0, -1⟩) (turnA_self (by simp [h1, h2, h3, h5, h6, h7, h8, hc1, hc2, hcc, hcn, x1, x2, x3, List.map_set])) ?_
      rintro g t h ⟨ht, hv, hc1, hc2, hcc, hcn, h1, h2, h3, h5, h6, h7, h8, h9⟩
      obtain ⟨u, v⟩ := g
      simp only at h1 h2 h3 h5 h6 h7 h8 h9 ht hv hcn
      by_cases hgo : u < s ∧ v = -1
      · obtain ⟨hts, rfl⟩ := hgo
        have hno : ∀ r, r < u → κ r ≠ κ s := by
          rcases hv with h | ⟨_, h⟩
          · exact h.2
          · omega
        have hsc : s < c.length := by omega
        have htc : u < c.length := by omega
        have htn : u < m.next.length := by omega
        have hwt : IntKind.i64.wrap ((u : Int) + 1) = (u : Int) + 1 := wrap_i64 (by omega) (by omega)
        have r1 : m.next[s].length = m.k := hm.rl _ (List.getElem_mem hlt)
        have r2 : m.next[u].length = m.k := hm.rl _ (List.getElem_mem htn)
        simp [h1, h2, h3, h5, h6, h7, h8, h9, hts, hcn, hlt]
        refine awp_draw_text (by kernel_rfl) [] [] (by kernel_rfl) (by kernel_rfl) (by simp) ?_
        simp [h1, h2, h3, h5, h6, h7, h8, h9, hcc, hsc, htc, hlt, htn]
        refine awp_loop_g (γ := RlI) (fun q t h => (q.i ≤ m.k) ∧ (q.al = true ↔ (c.getD s 0 = c.getD u 0 ∧ ∀ j, j < q.i → c.getD (nx m s j) 0 = c.getD (nx m u j) 0)) ∧ (∀ off, cellsAt h b1 off = some (([.int .i64 (m.k : Int), .sl m.next.length (m.next.map natsA), boolsA m.good] : List AV).drop off)) ∧ (cellsAt h b2 0 = some [.int .i64 0, .nilsl, .nilsl]) ∧ (∀ off, cellsAt h bc off = some ((c.map fun x : Nat => AV.int .i64 (x : Int)).drop off)) ∧ (∀ off, cellsAt h bn off = some ((((nxL κ m.next.length s).set s (-1)).map (AV.int .i64)).drop off)) ∧ t 1 = .ptr b1 0 ∧ t 2 = .ptr b2 0 ∧ t 3 = .osl bc 0 m.next.length 1 ∧ t 5 = .int .i64 many ∧ t 6 = .osl bn 0 m.next.length 1 ∧ t 7 = .int .i64 (ddF κ s).length ∧ t 8 = .int .i64 s ∧ t 9 = .int .i64 u ∧ t 10 = .bool q.al ∧ t 11 = .int .i64 q.i) (fun q => m.k - q.i) (⟨0, decide (c[s] = c[u])⟩) (turnA_self (by simp [h1, h2, h3, h5, h6, h7, h8, h9, hsc, htc, hc1, hc2, hcc, hcn]; omega)) ?_
        rintro q t h ⟨hi, hal, hc1, hc2, hcc, hcn, h1, h2, h3, h5, h6, h7, h8, h9, h10, h11⟩
        obtain ⟨i, al⟩ := q
        simp only at h1 h2 h3 h5 h6 h7 h8 h9 h10 h11 hi hal
        by_cases hgi : i < m.k ∧ al = true
        · obtain ⟨hlti, rfl⟩ := hgi
          have hal2 := hal.1 rfl
          have hwi : IntKind.i64.wrap ((i : Int) + 1) = (i : Int) + 1 := wrap_i64 (by omega) (by omega)
          have n1 := nx_lt hm hlt hlti; have n2 := nx_lt hm htn hlti
          have e1 : nx m s i = m.next[s][i] := by simp [nx, hlt, r1, hlti]
          have e2 : nx m u i = m.next[u][i] := by simp [nx, htn, r2, hlti]
          have n1' : m.next[s][i] < c.length := by rw [← e1, hcl]; exact n1
          have n2' : m.next[u][i] < c.length := by rw [← e2, hcl]; exact n2
          have n1'' : m.next[s][i] < m.next.length := by rw [← e1]; exact n1
          have n2'' : m.next[u][i] < m.next.length := by rw [← e2]; exact n2
          simp [h1, h2, h3, h5, h6, h7, h8, h9, h10, h11, hc1, hlti]
          refine awp_draw_text (by kernel_rfl) [] [] (by kernel_rfl) (by kernel_rfl) (by simp) ?_
          simp [h1, h2, h3, h5, h6, h7, h8, h9, h10, h11, hc1, hcc, hlt, htn, natsA, r1, r2, hlti, n1', n2', n1'', n2'']
          have ev1 : c.getD (nx m s i) 0 = c[m.next[s][i]] := by rw [e1]; simp [n1']
          have ev2 : c.getD (nx m u i) 0 = c[m.next[u][i]] := by rw [e2]; simp [n2']
          have hal3 : decide (c[m.next[s][i]] = c[m.next[u][i]]) = true ↔ (c.getD s 0 = c.getD u 0 ∧ ∀ j, j < i + 1 → c.getD (nx m s j) 0 = c.getD (nx m u j) 0) := by
            rw [decide_eq_true_iff]
            constructor
            · intro h
              refine ⟨hal2.1, fun j hj => ?_⟩
              by_cases e : j = i
              · subst e; rw [ev1, ev2, h]
              · exact hal2.2 j (by omega)
            · intro h
              have := h.2 i (by omega)
              rwa [ev1, ev2] at this
          refine turnA_self ⟨⟨i + 1, decide (c[m.next[s][i]] = c[m.next[u][i]])⟩, by simp only; omega, by simp only; omega, by simpa using hal3, hc1, hc2, hcc, by simpa using hcn, ?_⟩
          simp [h1, h2, h3, h5, h6, h7, h8, h9, h10, h11, hwi]
          omega
        · have hend : (if al = true then κ s = κ u else κ s ≠ κ u) := by
            by_cases ha : al = true
            · rw [if_pos ha]
              have : i = m.k := by
                by_cases h : i < m.k
                · exact absurd ⟨h, ha⟩ hgi
                · omega
              have h2 := hal.1 ha
              rw [this] at h2
              exact (hκi s u).2 h2
            · rw [if_neg ha]
              intro h
              have h2 := (hκi s u).1 h
              exact ha (hal.2 ⟨h2.1, fun j hj => h2.2 j (by omega)⟩)
          cases al with
          | true =>
            have hik : ¬ i < m.k := fun h => hgi ⟨h, rfl⟩
            have hmem : κ s ∈ ddF κ s := (mem_ddF κ _ s).2 ⟨u, hts, hend.symm⟩
            have hgu : ∀ hv, (((nxL κ m.next.length s).map (AV.int .i64)).set s (.int .i64 (-1)))[u]'hv = .int .i64 (ixF (ddF κ s) (κ s) : Nat) := fun hv => by
              rw [List.getElem_set_ne (by omega), List.getElem_map, nxL_get κ m.next.length s u hts (by omega), ← (show κ s = κ u from hend)]
            simp [h1, h2, h3, h5, h6, h7, h8, h9, h10, h11, hc1, hik, hcn, htn, hlt, hgu]
            refine ⟨by omega, turnA_self ⟨⟨u + 1, (ixF (ddF κ s) (κ s) : Nat)⟩, by simp only; omega, by simp only; omega, .inr ⟨hmem, rfl⟩, ?_, ?_, ?_, ?_, ?_⟩⟩
            · intro off; simp [x1, hc1]
            · simp [x2, hc2]
            · intro off; simp [x3, hcc]
            · intro off; simp
            · simp [h1, h2, h3, h5, h6, h7, h8, h9, h10, h11, hwt, hgu]
          | false =>
            have hne : κ s ≠ κ u := hend
            by_cases hik : i < m.k
            · simp [h1, h2, h3, h5, h6, h7, h8, h9, h10, h11, hc1, hik]
              refine turnA_self ⟨⟨u + 1, -1⟩, by simp only; omega, by simp only; omega, .inl ⟨rfl, fun r hr => ?_⟩, hc1, hc2, hcc, by simpa using hcn, by simp [h1, h2, h3, h5, h6, h7, h8, h9, h10, h11, hwt]⟩
              by_cases e : r = u
              · subst e; exact fun h => hne h.symm
              · exact hno r (by simp only at hr; omega)
            · simp [h1, h2, h3, h5, h6, h7, h8, h9, h10, h11, hc1, hik]
              refine turnA_self ⟨⟨u + 1, -1⟩, by simp only; omega, by simp only; omega, .inl ⟨rfl, fun r hr => ?_⟩, hc1, hc2, hcc, by simpa using hcn, by simp [h1, h2, h3, h5, h6, h7, h8, h9, h10, h11, hwt]⟩
              by_cases e : r = u
              · subst e; exact fun h => hne h.symm
              · exact hno r (by simp only at hr; omega)
      · have hset := nxL_succ κ m.next.length s hlt
        have hexit : ¬ (u < s ∧ v < 0) := fun h => hgo ⟨h.1, by rcases hv with q | ⟨_, q⟩ <;> omega⟩
        rcases hv with ⟨rfl, hno⟩ | ⟨hmem, rfl⟩
        · have hus : ¬ u < s := fun h => hgo ⟨h, rfl⟩
          have hmem : κ s ∉ ddF κ s := fun h => by
            obtain ⟨r, hr, e⟩ := (mem_ddF κ _ s).1 h
            exact hno r (by omega) e
          have hdd : ddF κ (s + 1) = ddF κ s ++ [κ s] := by simp [ddF, hmem]
          have hix : ixF (ddF κ (s + 1)) (κ s) = (ddF κ s).length := by rw [hdd]; simp [ixF, List.idxOf_append, hmem]
          rw [hix] at hset
          simp [h1, h2, h3, h5, h6, h7, h8, h9, hus, hcn, hlt]
          refine ⟨by omega, turnA_self ⟨s + 1, by omega, by omega, ?_, ?_, ?_, ?_, ?_⟩⟩
          · intro off; simp [x1, hc1]
          · simp [x2, hc2]
          · intro off; simp [x3, hcc]
          · intro off; simp [hset, List.map_set]
          · simp [h1, h2, h3, h5, h6, h7, h8, h9, hws, hwn, hdd]
        · have hdd : ddF κ (s + 1) = ddF κ s := by simp [ddF, hmem]
          rw [hdd] at hset
          have hnn : ¬ ((ixF (ddF κ s) (κ s) : Nat) : Int) < 0 := by omega
          by_cases hus : u < s
          · simp [h1, h2, h3, h5, h6, h7, h8, h9, hus, hcn, hlt, hnn]
            refine turnA_self ⟨s + 1, by omega, by omega, hc1, hc2, hcc, ?_, ?_⟩
            · intro off; simp [hset, List.map_set, hcn]
            · simp [h1, h2, h3, h5, h6, h7, h8, h9, hws, hdd]
          · simp [h1, h2, h3, h5, h6, h7, h8, h9, hus, hcn, hlt, hnn]
            refine turnA_self ⟨s + 1, by omega, by omega, hc1, hc2, hcc, ?_, ?_⟩
            · intro off; simp [hset, List.map_set, hcn]
            · simp [h1, h2, h3, h5, h6, h7, h8, h9, hws, hdd]
    · obtain rfl : s = m.next.length := by omega
      have hend := nxL_end κ m.next.length
      rw [hend] at hcn
      have hnext : Way m (clsF κ m.next.length) (ddF κ m.next.length).length := by rw [hκ]; exact hw.next hm
      have hle : many ≤ (ddF κ m.next.length).length := by rw [hκ]; exact hw.le hm
      have hfin : (ddF κ m.next.length).length = many → Fin m (clsF κ m.next.length) many := fun h => by rw [hκ] at h ⊢; exact hw.fin hm h
      have hdle := ddF_le κ m.next.length
      generalize (ddF κ m.next.length).length = many' at *
      by_cases hmm : many' = many
      · subst hmm
        have hf := hfin rfl
        simp [h1, h2, h3, h5, h6, h7, h8]
        refine ⟨by omega, ?_⟩
        intro b12 hb12
        generalize clsF κ m.next.length = cl at hf hcn
        have hcn' : ∀ off, cellsAt h bn off = some ((cl.map fun x : Nat => AV.int .i64 (x : Int)).drop off) := by intro off; simpa [Function.comp_def] using hcn off
        clear hcn hnext hfin hend hκi hκ hw hle hlt hcc
        have hcn := hcn'
        clear hcn'
        have y1 := ne_fresh (hc1 0) hb12; have y2 := ne_fresh hc2 hb12; have yn := ne_fresh (hcn 0) hb12
        have hclL := hf.len
        have hz0 : List.replicate many' (AV.int .i64 0) = (m1L many' 0).map (AV.int .i64) := by rw [m1L_zero]; simp
        simp [h1, h2, h3, h5, h6, h7, h8]
        rw [hz0]
        clear hz0
        have hmanyn := hf.le
        refine awp_loop_g (γ := Nat) (fun i t h => (i ≤ many') ∧ (∀ off, cellsAt h b1 off = some (([.int .i64 (m.k : Int), .sl m.next.length (m.next.map natsA), boolsA m.good] : List AV).drop off)) ∧ (cellsAt h b2 0 = some [.int .i64 0, .nilsl, .nilsl]) ∧ (∀ off, cellsAt h bn off = some ((cl.map fun x : Nat => AV.int .i64 (x : Int)).drop off)) ∧ (∀ off, cellsAt h b12 off = some (((m1L many' i).map (AV.int .i64)).drop off)) ∧ t 1 = .ptr b1 0 ∧ t 2 = .ptr b2 0 ∧ t 3 = .osl bn 0 m.next.length 1 ∧ t 5 = .int .i64 many' ∧ t 12 = .osl b12 0 many' 1 ∧ t 13 = .int .i64 i) (fun i => many' - i) (0) (turnA_self (by simp [h1, h2, h3, h5, h6, h7, h8, hc1, hc2, hcn, y1, y2, yn])) ?_
        rintro i t h ⟨hi, hc1, hc2, hcn, hnum, h1, h2, h3, h5, h12, h13⟩
        by_cases hlti : i < many'
        · have hwi : IntKind.i64.wrap ((i : Int) + 1) = (i : Int) + 1 := wrap_i64 (by omega) (by omega)
          have hsucc := m1L_succ many' i
          simp [h1, h2, h3, h5, h12, h13, hlti, hnum]
          refine ⟨by omega, turnA_self ⟨i + 1, by omega, by omega, ?_, ?_, ?_, ?_, by simp [h1, h2, h3, h5, h12, h13, hwi]⟩⟩
          · intro off; simp [y1, hc1]
          · simp [y2, hc2]
          · intro off; simp [yn, hcn]
          · intro off; simp [hsucc, List.map_set]
        · obtain rfl : i = many' := by omega
          rw [m1L_end] at hnum
          simp [h1, h2, h3, h5, h12, h13, hc1]
          intro b14 hb14
          have z1 := ne_fresh (hc1 0) hb14; have z2 := ne_fresh hc2 hb14; have zn := ne_fresh (hcn 0) hb14; have z12 := ne_fresh (hnum 0) hb14
          have b14n12 : ¬ b14 = b12 := z12.2
          have h0n : 0 < m.next.length := by omega
          have hc0 : cl.getD 0 0 < i := hf.lt 0 h0n
          have h0c : 0 < cl.length := by omega
          have hcl0 : cl.getD 0 0 = cl[0] := by simp [h0c]
          rw [hcl0] at hc0
          have hn0 := numF_snoc i [] cl[0] (by simp)
          simp at hn0
          simp [h1, h2, h3, h5, h12, h13]
          intro bst0 hbst0
          simp at hbst0
          have w1 := ne_fresh (hc1 0) hbst0.2.2; have w2 := ne_fresh hc2 hbst0.2.2; have wn := ne_fresh (hcn 0) hbst0.2.2; have w12 := ne_fresh (hnum 0) hbst0.2.2
          simp [h1, h2, h3, h5, h12, h13, hcn, hnum, zn, z12, wn, w12, h0n, h0c, hclL, hc0]
          refine ⟨by omega, ?_⟩
          obtain ⟨HB, hHB⟩ : ∃ HB, HB = h.del b12 := ⟨_, rfl⟩
          have e1 : ∀ off, cellsAt HB b1 off = some (([.int .i64 (m.k : Int), .sl m.next.length (m.next.map natsA), boolsA m.good] : List AV).drop off) := by intro off; rw [hHB]; simp [y1, hc1]
          have e2 : cellsAt HB b2 0 = some [.int .i64 0, .nilsl, .nilsl] := by rw [hHB]; simp [y2, hc2]
          have en : ∀ off, cellsAt HB bn off = some ((cl.map fun x : Nat => AV.int .i64 (x : Int)).drop off) := by intro off; rw [hHB]; simp [yn, hcn]
          have hle0 : HLe HB h := by
            rw [hHB]
            intro q d hd
            unfold AHeap.del at hd
            split at hd
            · cases hd
            · exact hd
          have f12 : Fresh HB b12 := by rw [hHB]; unfold Fresh AHeap.del; simp
          have f14 : Fresh HB b14 := hle0.fresh hb14
          have fst0 : Fresh HB bst0 := hle0.fresh hbst0.2.2
          obtain ⟨F, F1, F2, F3, F4⟩ := rIter_end (clN m cl) (-1) m.k (cl.getD 0 0) i (fun a st e => by
            have hinv := rIter_inv (clN m cl) (-1) (fun x => ∃ s, s < m.next.length ∧ cl.getD s 0 = x) m.k (fun x j hx hj => by
              obtain ⟨s, hs, rfl⟩ := hx
              exact ⟨nx m s j, nx_lt hm hs hj, (clN_eq hf hs hj).symm⟩) (cl.getD 0 0) ⟨0, h0n, rfl⟩ a st e
            exact nodup_lt i _ hinv.1 fun x hx => by obtain ⟨s, hs, rfl⟩ := hinv.2 x hx; exact hf.lt s hs)
          obtain ⟨kc, hkc⟩ : ∃ kc : Nat → Nat, kc = fun s => cl.getD s 0 := ⟨_, rfl⟩
          obtain ⟨gk, hgk⟩ : ∃ gk : Nat → Bool, gk = fun s => m.good.getD s false := ⟨_, rfl⟩
          have hk0 : kc 0 = cl[0] := by rw [hkc]; exact hcl0
          have hle1 : HLe HB (((h.upd b14 (.cells [.int .i64 m.k, .nilsl, .nilsl])).upd bst0 (.cells [.int .i64 0])).upd b12 (.cells ((List.map (AV.int .i64) (numF i [])).set cl[0] (.int .i64 0)))) := ((hle0.new f14).new fst0).new f12
          have hnum1 : ((List.map (AV.int .i64) (numF i [])).set cl[0] (.int .i64 0)) = (numF i [kc 0]).map (AV.int .i64) := by rw [hk0, hn0, List.map_set]
          rw [hnum1, hk0] at hle1 ⊢
          refine awp_loop_g (γ := RlE) (fun g t h => (g.a ≤ F) ∧ (rIter (clN m cl) (-1) m.k (cl.getD 0 0) g.a = some (g.states.map kc, g.rows)) ∧ (∀ s ∈ g.states, s < m.next.length) ∧ (HLe HB h) ∧ (∀ off, cellsAt h b12 off = some (((numF i (g.states.map kc)).map (AV.int .i64)).drop off)) ∧ (∀ off, cellsAt h b14 off = some (([.int .i64 (m.k : Int), ownV g.on g.rows.length 1, ownV g.og g.rows.length 1] : List AV).drop off)) ∧ (Fresh HB g.bst ∧ (∀ off, cellsAt h g.bst off = some ((g.states.map fun x : Nat => AV.int .i64 (x : Int)).drop off)) ∧ ¬ g.bst = b12 ∧ ¬ b12 = g.bst ∧ ¬ g.bst = b14 ∧ ¬ b14 = g.bst) ∧ (∀ b, g.on = some b → Fresh HB b ∧ cellsAt h b 0 = some (g.rows.map natsA) ∧ ¬ b = b12 ∧ ¬ b12 = b ∧ ¬ b = b14 ∧ ¬ b14 = b ∧ ¬ b = g.bst ∧ ¬ g.bst = b) ∧ (∀ b, g.og = some b → Fresh HB b ∧ cellsAt h b 0 = some (((g.states.take g.a).map gk).map AV.bool) ∧ ¬ b = b12 ∧ ¬ b12 = b ∧ ¬ b = b14 ∧ ¬ b14 = b ∧ ¬ b = g.bst ∧ ¬ g.bst = b ∧ ∀ c, g.on = some c → ¬ b = c ∧ ¬ c = b) ∧ ((g.on = none → g.rows = []) ∧ (g.og = none → g.rows = [])) ∧ t 1 = .ptr b1 0 ∧ t 2 = .ptr b2 0 ∧ t 3 = .osl bn 0 m.next.length 1 ∧ t 12 = .osl b12 0 i 1 ∧ t 14 = .ptr b14 0 ∧ t 15 = .osl g.bst 0 g.states.length 1 ∧ t 16 = .int .i64 g.a) (fun g => F - g.a) (⟨0, [0], [], bst0, none, none⟩) (turnA_self (by simp [h1, h2, h3, h5, h12, h13, hk0, hle1, h0n, fst0, w12, z12, hbst0, h0c, rIter])) ?_
          rintro g t h ⟨ha, hit, hss, hle, hnum, h14c, hbs, hon, hog, hno, h1, h2, h3, h12, h14, h15, h16⟩
          obtain ⟨a, states, rows, bst, on, og⟩ := g
          simp only at h1 h2 h3 h12 h14 h15 h16 ha hit hss hnum h14c hbs hon hog hno
          have hc1 := fun off => hle.cells (e1 off)
          have hcn := fun off => hle.cells (en off)
          have hlen := rIter_len _ _ _ _ a _ hit
          have hrl := rIter_rows _ _ _ _ a _ (fun b st hb => F3 b st (by omega)) hit
          simp only [List.length_map] at hlen hrl
          have hFm : F ≤ 1000001 := by omega
          have hsl : states.length ≤ 5000005 := by
            have : m.k * a ≤ 4 * 1000001 := Nat.mul_le_mul hk4 (by omega)
            omega
          by_cases hlt : a < F
          · have hak := F3 a _ hlt hit
            simp only [List.length_map] at hak
            obtain ⟨b0, b1', b2', b3', b4', b5'⟩ := hbs
            obtain ⟨s, hs⟩ : ∃ s, s = states[a] := ⟨_, rfl⟩
            have hsn : s < m.next.length := by rw [hs]; exact hss _ (List.getElem_mem hak)
            have hwa : IntKind.i64.wrap ((a : Int) + 1) = (a : Int) + 1 := wrap_i64 (by omega) (by omega)
            simp [h1, h2, h3, h12, h14, h15, h16, hak, b1', ← hs]
            obtain ⟨x, hx⟩ : ∃ x, x = kc s := ⟨_, rfl⟩
            have hxk : (states.map kc)[a]? = some x := by rw [List.getElem?_map, List.getElem?_eq_getElem hak, ← hs, hx]; rfl
            have hr1 : m.next[s].length = m.k := hm.rl _ (List.getElem_mem hsn)
            refine awp_loop_t (γ := RlR) (fun g t h => (g.i ≤ m.k) ∧ (rRow (clN m cl) (-1) x (states.map kc) g.i = some (g.sts.map kc, g.row)) ∧ (∃ E, g.sts = states ++ E) ∧ (∀ s ∈ g.sts, s < m.next.length) ∧ (HLe HB h) ∧ (∀ off, cellsAt h b12 off = some (((numF i (g.sts.map kc)).map (AV.int .i64)).drop off)) ∧ (∀ off, cellsAt h b14 off = some (([.int .i64 (m.k : Int), ownV on rows.length 1, ownV og rows.length 1] : List AV).drop off)) ∧ (Fresh HB g.bst ∧ (∀ off, cellsAt h g.bst off = some ((g.sts.map fun x : Nat => AV.int .i64 (x : Int)).drop off)) ∧ ¬ g.bst = b12 ∧ ¬ b12 = g.bst ∧ ¬ g.bst = b14 ∧ ¬ b14 = g.bst) ∧ (∀ b, on = some b → cellsAt h b 0 = some (rows.map natsA) ∧ ¬ b = g.bst ∧ ¬ g.bst = b) ∧ (∀ b, og = some b → cellsAt h b 0 = some (((states.take a).map gk).map AV.bool) ∧ ¬ b = g.bst ∧ ¬ g.bst = b) ∧ (∀ b, g.r = some b → Fresh HB b ∧ cellsAt h b 0 = some (g.row.map fun x : Nat => AV.int .i64 (x : Int)) ∧ ¬ b = b12 ∧ ¬ b12 = b ∧ ¬ b = b14 ∧ ¬ b14 = b ∧ ¬ b = g.bst ∧ ¬ g.bst = b ∧ (∀ c, on = some c → ¬ b = c ∧ ¬ c = b) ∧ ∀ c, og = some c → ¬ b = c ∧ ¬ c = b) ∧ (g.r = none → g.row = []) ∧ t 1 = .ptr b1 0 ∧ t 2 = .ptr b2 0 ∧ t 3 = .osl bn 0 m.next.length 1 ∧ t 12 = .osl b12 0 i 1 ∧ t 14 = .ptr b14 0 ∧ t 15 = .osl g.bst 0 g.sts.length 1 ∧ t 16 = .int .i64 a ∧ t 17 = .int .i64 s ∧ t 18 = ownV g.r g.row.length 1 ∧ t 19 = .int .i64 g.i) (fun g => m.k - g.i) (⟨0, states, [], bst, none⟩) (turnA_self (by simp [h1, h2, h3, h12, h14, h15, h16, rRow, hle, hnum, h14c, b0, b1', b2', b3', b4', b5']; exact ⟨hss, fun b hb => ⟨(hon b hb).2.1, (hon b hb).2.2.2.2.2.2⟩, fun b hb => ⟨by simpa using (hog b hb).2.1, (hog b hb).2.2.2.2.2.2.1, (hog b hb).2.2.2.2.2.2.2.1⟩⟩)) ?_
            rintro g t h ⟨hi, hrow, hpre, hss, hle, hnum, h14c, hbs, hon2, hog2, hr, hno2, h1, h2, h3, h12, h14, h15, h16, h17, h18, h19⟩
            obtain ⟨j, sts, row, bst, r⟩ := g
            simp only at h1 h2 h3 h12 h14 h15 h16 h17 h18 h19 hi hrow hpre hss hnum hbs hon2 hog2 hr hno2
            have hc1 := fun off => hle.cells (e1 off)
            have hcn := fun off => hle.cells (en off)
            obtain ⟨b0, b1', b2', b3', b4', b5'⟩ := hbs
            obtain ⟨hl1, hl2, hl3⟩ := rRow_len _ _ _ _ j _ hrow
            simp only [List.length_map] at hl1 hl2 hl3
            by_cases hltj : j < m.k
            · have hwj : IntKind.i64.wrap ((j : Int) + 1) = (j : Int) + 1 := wrap_i64 (by omega) (by omega)
              have hjr : j < m.next[s].length := by omega
              obtain ⟨u, hu⟩ : ∃ u, u = m.next[s][j] := ⟨_, rfl⟩
              have hun : u < m.next.length := by rw [hu]; exact hm.lt _ (List.getElem_mem hsn) _ (List.getElem_mem hjr)
              have hnxu : nx m s j = u := by rw [hu]; simp [nx, hsn, hjr]
              have huc : u < cl.length := by omega
              obtain ⟨y, hy⟩ : ∃ y, y = cl[u] := ⟨_, rfl⟩
              have hyc : cl.getD u 0 = y := by rw [hy]; simp [huc]
              have hyi : y < i := by rw [← hyc]; exact hf.lt u hun
              have hxc : x = cl.getD s 0 := by rw [hx, hkc]
              have hν : clN m cl x j = y := by rw [hxc, clN_eq hf hsn hltj, hnxu, hyc]
              have hsucc := rRow_succ (clN m cl) (-1) x (states.map kc) j
              rw [hrow] at hsucc
              simp only [rStep, Option.bind_some, hν] at hsucc
              obtain ⟨ks, hks⟩ : ∃ ks, ks = sts.map kc := ⟨_, rfl⟩
              have hksl : ks.length = sts.length := by rw [hks]; simp
              rw [← hks] at hsucc hnum
              have hng : ∀ hv, (numF i ks)[y]'hv = if y ∈ ks then (ixF ks y : Int) else -1 := fun hv => numF_get i ks y hv
              by_cases hmem : y ∈ ks
              · rw [if_pos hmem] at hsucc
                have hng2 : ∀ hv, (numF i ks)[y]'hv = (ixF ks y : Nat) := fun hv => by rw [hng, if_pos hmem]
                have hnn : ¬ ((ixF ks y : Nat) : Int) < 0 := by omega
                rcases r with _ | r
                · obtain rfl := hno2 rfl
                  simp [h1, h2, h3, h12, h14, h15, h16, h17, h18, h19, hc1, hcn, hsn, hjr, hr1, natsA, hltj, ← hu, hun, hclL, ← hy, hnum, hyi, hng2, hnn]
                  intro c1 hd1
                  simp [h1, h2, h3, h12, h14, h15, h16, h17, h18, h19]
                  intro c2 hd2
                  simp at hd2
                  simp [h1, h2, h3, h12, h14, h15, h16, h17, h18, h19, hwj, hng2, hnn]
                  have p12 := ne_fresh (hnum 0) hd1; have p14 := ne_fresh (h14c 0) hd1; have ps := ne_fresh (b1' 0) hd1
                  have q12 := ne_fresh (hnum 0) hd2.2.2; have q14 := ne_fresh (h14c 0) hd2.2.2; have qs := ne_fresh (b1' 0) hd2.2.2
                  refine turnA_self ⟨⟨j + 1, sts, [] ++ [ixF ks y], bst, some c2⟩, by simp only; omega, by simp only; omega, by rw [← hks]; exact hsucc, hpre, hss, (hle.new (hle.fresh hd1)).new (hle.fresh hd2.2.2), ?_, ?_, ⟨b0, ?_, b2', b3', b4', b5'⟩, fun b hb => ?_, fun b hb => ?_, fun b hb => ?_, by simp, ?_⟩
                  · intro off; rw [← hks]; simp [p12, q12, hnum]
                  · intro off; simp [p14, q14, h14c]
                  · intro off; simp [ps, qs, b1']
                  · obtain ⟨v1, v2, v3⟩ := hon2 b hb
                    have v4 := ne_fresh v1 hd1; have v5 := ne_fresh v1 hd2.2.2
                    exact ⟨by simp [v4, v5, v1], v2, v3⟩
                  · obtain ⟨v1, v2, v3⟩ := hog2 b hb
                    have v4 := ne_fresh v1 hd1; have v5 := ne_fresh v1 hd2.2.2
                    exact ⟨by simp [v4, v5]; simpa using v1, v2, v3⟩
                  · cases hb
                    refine ⟨hle.fresh hd2.2.2, by simp, q12.2, q12.1, q14.2, q14.1, qs.2, qs.1, fun c hc => ?_, fun c hc => ?_⟩
                    · have := ne_fresh (hon2 c hc).1 hd2.2.2; exact ⟨this.2, this.1⟩
                    · have := ne_fresh (hog2 c hc).1 hd2.2.2; exact ⟨this.2, this.1⟩
                  · simp [h1, h2, h3, h12, h14, h15, h16, h17, h18, h19, hwj, hng2, hnn]
                · obtain ⟨w1, w2, w3, w4, w5, w6, w7, w8, w9, w10⟩ := hr r rfl
                  simp [h1, h2, h3, h12, h14, h15, h16, h17, h18, h19, hc1, hcn, hsn, hjr, hr1, natsA, hltj, ← hu, hun, hclL, ← hy, hnum, hyi, hng2, hnn]
                  intro c1 hd1
                  have pr := ne_fresh w2 hd1
                  simp [h1, h2, h3, h12, h14, h15, h16, h17, h18, h19, pr, w2]
                  refine ⟨by omega, ?_⟩
                  intro c2 hd2
                  simp [pr] at hd2
                  simp [h1, h2, h3, h12, h14, h15, h16, h17, h18, h19, hwj, hng2, hnn]
                  have p12 := ne_fresh (hnum 0) hd1; have p14 := ne_fresh (h14c 0) hd1; have ps := ne_fresh (b1' 0) hd1
                  have hq : Fresh HB c2 ∧ ¬ c2 = b12 ∧ ¬ b12 = c2 ∧ ¬ c2 = b14 ∧ ¬ b14 = c2 ∧ ¬ c2 = bst ∧ ¬ bst = c2 ∧ (∀ c, on = some c → ¬ c2 = c ∧ ¬ c = c2) ∧ ∀ c, og = some c → ¬ c2 = c ∧ ¬ c = c2 := by
                    rcases hd2.2.2 with rfl | hfr
                    · exact ⟨w1, w3, w4, w5, w6, w7, w8, w9, w10⟩
                    · have q12 := ne_fresh (hnum 0) hfr; have q14 := ne_fresh (h14c 0) hfr; have qs := ne_fresh (b1' 0) hfr
                      exact ⟨hle.fresh hfr, q12.2, q12.1, q14.2, q14.1, qs.2, qs.1, fun c hc => by have := ne_fresh (hon2 c hc).1 hfr; exact ⟨this.2, this.1⟩, fun c hc => by have := ne_fresh (hog2 c hc).1 hfr; exact ⟨this.2, this.1⟩⟩
                  obtain ⟨m0, m1, m2, m3, m4, m5, m6, m7, m8⟩ := hq
                  refine turnA_self ⟨⟨j + 1, sts, row ++ [ixF ks y], bst, some c2⟩, by simp only; omega, by simp only; omega, by rw [← hks]; exact hsucc, hpre, hss, ((hle.del w1).new (hle.fresh hd1)).new m0, ?_, ?_, ⟨b0, ?_, b2', b3', b4', b5'⟩, fun b hb => ?_, fun b hb => ?_, fun b hb => ?_, by simp, ?_⟩
                  · intro off; rw [← hks]; simp [p12, m2, w4, hnum]
                  · intro off; simp [p14, m4, w6, h14c]
                  · intro off; simp [ps, m6, w8, b1']
                  · obtain ⟨v1, v2, v3⟩ := hon2 b hb
                    have v4 := ne_fresh v1 hd1; have v5 := m7 b hb; have v6 := w9 b hb
                    exact ⟨by simp [v4, v5, v6, v1], v2, v3⟩
                  · obtain ⟨v1, v2, v3⟩ := hog2 b hb
                    have v4 := ne_fresh v1 hd1; have v5 := m8 b hb; have v6 := w10 b hb
                    exact ⟨by simp [v4, v5, v6]; simpa using v1, v2, v3⟩
                  · cases hb
                    exact ⟨m0, by simp, m1, m2, m3, m4, m5, m6, m7, m8⟩
                  · simp [h1, h2, h3, h12, h14, h15, h16, h17, h18, h19, hwj, hng2, hnn]
              · have hm1 : ¬ ((ks.length : Nat) : Int) = -1 := by omega
                rw [if_neg hmem, if_neg hm1] at hsucc
                have hng2 : ∀ hv, (numF i ks)[y]'hv = -1 := fun hv => by rw [hng, if_neg hmem]
                have hnum2 := numF_snoc i ks y hmem
                simp [h1, h2, h3, h12, h14, h15, h16, h17, h18, h19, hc1, hcn, hsn, hjr, hr1, natsA, hltj, ← hu, hun, hclL, ← hy, hnum, hyi, hng2, b3', b2']
                refine ⟨by omega, ?_⟩
                intro c0 hd0
                simp at hd0
                have b10 := b1' 0
                simp only [List.drop_zero] at b10
                have pb := ne_fresh (b1' 0) hd0.2.2
                simp [h1, h2, h3, h12, h14, h15, h16, h17, h18, h19, b2', b3', pb, b10]
                refine ⟨by omega, ?_⟩
                intro bst2 hd2
                simp [b2', b3', pb, hd0.1, hd0.2.1] at hd2
                refine nameH (fun hX hhX => ?_)
                have fb2 : Fresh HB bst2 := by
                  rcases hd2.2.2.2.2 with rfl | q
                  · exact b0
                  · exact hle.fresh q
                have hle2 : HLe HB hX := by rw [hhX]; exact (((hle.del b0).new f12).new (hle.fresh hd0.2.2)).new fb2
                have gN : ∀ {b cs}, cellsAt h b 0 = some cs → ¬ b = bst → ¬ b = b12 → ¬ b = bst2 ∧ ¬ bst2 = b ∧ cellsAt hX b 0 = some cs := by
                  intro b cs q1 q2 q3
                  have q4 := ne_fresh q1 hd0.2.2
                  have q5 : ¬ b = bst2 ∧ ¬ bst2 = b := by
                    rcases hd2.2.2.2.2 with rfl | q
                    · exact ⟨q2, fun e => q2 e.symm⟩
                    · exact ne_fresh q1 q
                  exact ⟨q5.1, q5.2, by rw [hhX]; simp [q4, q5, q2, q3, q1]⟩
                have g14 := gN (h14c 0) b5' (fun e => b14n12 e)
                have hnum3 : ∀ off, cellsAt hX b12 off = some (((numF i (ks ++ [y])).map (AV.int .i64)).drop off) := by
                  intro off; rw [hhX, hnum2, List.map_set, hksl]; simp [hd2, hd0]
                have h14c3 : ∀ off, cellsAt hX b14 off = some (([.int .i64 (m.k : Int), ownV on rows.length 1, ownV og rows.length 1] : List AV).drop off) := by
                  intro off
                  have q4 := ne_fresh (h14c 0) hd0.2.2
                  rw [hhX]; simp [q4, g14.1, g14.2.1, b5', b14n12, h14c]
                have hbs3 : ∀ off, cellsAt hX bst2 off = some (((sts ++ [u]).map fun x : Nat => AV.int .i64 (x : Int)).drop off) := by intro off; rw [hhX]; simp
                have hon3 : ∀ b, on = some b → cellsAt hX b 0 = some (rows.map natsA) ∧ ¬ b = bst2 ∧ ¬ bst2 = b := fun b hb => by
                  obtain ⟨v1, v2, v3⟩ := hon2 b hb
                  have v4 := gN v1 v2 (hon b hb).2.2.1
                  exact ⟨v4.2.2, v4.1, v4.2.1⟩
                have hog3 : ∀ b, og = some b → cellsAt hX b 0 = some (((states.take a).map gk).map AV.bool) ∧ ¬ b = bst2 ∧ ¬ bst2 = b := fun b hb => by
                  obtain ⟨v1, v2, v3⟩ := hog2 b hb
                  have v4 := gN v1 v2 (hog b hb).2.2.1
                  exact ⟨v4.2.2, v4.1, v4.2.1⟩
                have hr3 : ∀ b, r = some b → Fresh HB b ∧ cellsAt hX b 0 = some (row.map fun x : Nat => AV.int .i64 (x : Int)) ∧ ¬ b = b12 ∧ ¬ b12 = b ∧ ¬ b = b14 ∧ ¬ b14 = b ∧ ¬ b = bst2 ∧ ¬ bst2 = b ∧ (∀ c, on = some c → ¬ b = c ∧ ¬ c = b) ∧ ∀ c, og = some c → ¬ b = c ∧ ¬ c = b := fun b hb => by
                  obtain ⟨w1, w2, w3, w4, w5, w6, w7, w8, w9, w10⟩ := hr b hb
                  have v4 := gN w2 w7 w3
                  exact ⟨w1, v4.2.2, w3, w4, w5, w6, v4.1, v4.2.1, w9, w10⟩
                have hss3 : ∀ s ∈ sts ++ [u], s < m.next.length := by
                  intro z hz
                  rcases List.mem_append.1 hz with q | q
                  · exact hss z q
                  · rw [List.mem_singleton.1 q]; exact hun
                have hpre3 : ∃ E, sts ++ [u] = states ++ E := by
                  obtain ⟨E, hE⟩ := hpre
                  exact ⟨E ++ [u], by rw [hE, List.append_assoc]⟩
                have hks3 : ks ++ [y] = (sts ++ [u]).map kc := by
                  rw [List.map_append, ← hks]
                  have : kc u = y := by rw [hkc]; exact hyc
                  simp [this]
                have hng3 : ∀ hv, (numF i (ks ++ [y]))[y]'hv = ks.length := fun hv => by
                  rw [numF_get i (ks ++ [y]) y hv, if_pos (by simp)]
                  simp [ixF, List.idxOf_append, hmem]
                have hl3 : (sts ++ [u]).length = sts.length + 1 := by simp
                have b23 : ¬ bst2 = b12 := hd2.2.2.1
                have b32 : ¬ b12 = bst2 := hd2.2.2.2.1
                clear hhX gN hnum h14c b1' hon2 hog2 hr hss hpre hks hng hng2 hle b0 b2' b3' b4' b5' b10 pb
                obtain ⟨ks2, hks2⟩ : ∃ ks2, ks2 = ks ++ [y] := ⟨_, rfl⟩
                obtain ⟨sts2, hsts2⟩ : ∃ sts2, sts2 = sts ++ [u] := ⟨_, rfl⟩
                rw [← hks2] at hsucc hnum3 hks3 hng3
                rw [← hsts2] at hbs3 hss3 hpre3 hks3 hl3
                have hl4 : (sts.length : Int) + 1 = sts2.length := by omega
                have hnum := hnum3; have h14c := h14c3; have b1' := hbs3; have hon2 := hon3; have hog2 := hog3; have hr := hr3; have hss := hss3; have hpre := hpre3; have hks := hks3; have hng2 := hng3
                have hle := hle2; have b0 := fb2; have b2' := b23; have b3' := b32; have b4' := g14.2.1; have b5' := g14.1
                clear hnum3 h14c3 hbs3 hon3 hog3 hr3 hss3 hpre3 hks3 hng3 hle2
                have hc1 := fun off => hle.cells (e1 off)
                have hcn := fun off => hle.cells (en off)
                rcases r with _ | r
                · obtain rfl := hno2 rfl
                  simp [h1, h2, h3, h12, h14, h15, h16, h17, h18, h19, hc1, hcn, hsn, hjr, hr1, natsA, hltj, ← hu, hun, hclL, ← hy, hnum, hyi, hng2, hl3]
                  intro c1 hd1
                  simp [h1, h2, h3, h12, h14, h15, h16, h17, h18, h19]
                  intro c2 hd2
                  simp at hd2
                  simp [h1, h2, h3, h12, h14, h15, h16, h17, h18, h19, hwj, hng2, hl3]
                  have p12 := ne_fresh (hnum 0) hd1; have p14 := ne_fresh (h14c 0) hd1; have ps := ne_fresh (b1' 0) hd1
                  have q12 := ne_fresh (hnum 0) hd2.2.2; have q14 := ne_fresh (h14c 0) hd2.2.2; have qs := ne_fresh (b1' 0) hd2.2.2
                  refine turnA_self ⟨⟨j + 1, sts2, [] ++ [ks.length], bst2, some c2⟩, by simp only; omega, by simp only; omega, by rw [← hks]; exact hsucc, hpre, hss, (hle.new (hle.fresh hd1)).new (hle.fresh hd2.2.2), ?_, ?_, ⟨b0, ?_, b2', b3', b4', b5'⟩, fun b hb => ?_, fun b hb => ?_, fun b hb => ?_, by simp, ?_⟩
                  · intro off; rw [← hks]; simp [p12, q12, hnum]
                  · intro off; simp [p14, q14, h14c]
                  · intro off; simp [ps, qs, b1']
                  · obtain ⟨v1, v2, v3⟩ := hon2 b hb
                    have v4 := ne_fresh v1 hd1; have v5 := ne_fresh v1 hd2.2.2
                    exact ⟨by simp [v4, v5, v1], v2, v3⟩
                  · obtain ⟨v1, v2, v3⟩ := hog2 b hb
                    have v4 := ne_fresh v1 hd1; have v5 := ne_fresh v1 hd2.2.2
                    exact ⟨by simp [v4, v5]; simpa using v1, v2, v3⟩
                  · cases hb
                    refine ⟨hle.fresh hd2.2.2, by simp, q12.2, q12.1, q14.2, q14.1, qs.2, qs.1, fun c hc => ?_, fun c hc => ?_⟩
                    · have := ne_fresh (hon2 c hc).1 hd2.2.2; exact ⟨this.2, this.1⟩
                    · have := ne_fresh (hog2 c hc).1 hd2.2.2; exact ⟨this.2, this.1⟩
                  · simp [h1, h2, h3, h12, h14, h15, h16, h17, h18, h19, hwj, hng2, hl3]
                · obtain ⟨w1, w2, w3, w4, w5, w6, w7, w8, w9, w10⟩ := hr r rfl
                  simp [h1, h2, h3, h12, h14, h15, h16, h17, h18, h19, hc1, hcn, hsn, hjr, hr1, natsA, hltj, ← hu, hun, hclL, ← hy, hnum, hyi, hng2, hl3]
                  intro c1 hd1
                  have pr := ne_fresh w2 hd1
                  simp [h1, h2, h3, h12, h14, h15, h16, h17, h18, h19, pr, w2]
                  refine ⟨by omega, ?_⟩
                  intro c2 hd2
                  simp [pr] at hd2
                  simp [h1, h2, h3, h12, h14, h15, h16, h17, h18, h19, hwj, hng2, hl3]
                  have p12 := ne_fresh (hnum 0) hd1; have p14 := ne_fresh (h14c 0) hd1; have ps := ne_fresh (b1' 0) hd1
                  have hq : Fresh HB c2 ∧ ¬ c2 = b12 ∧ ¬ b12 = c2 ∧ ¬ c2 = b14 ∧ ¬ b14 = c2 ∧ ¬ c2 = bst2 ∧ ¬ bst2 = c2 ∧ (∀ c, on = some c → ¬ c2 = c ∧ ¬ c = c2) ∧ ∀ c, og = some c → ¬ c2 = c ∧ ¬ c = c2 := by
                    rcases hd2.2.2 with rfl | hfr
                    · exact ⟨w1, w3, w4, w5, w6, w7, w8, w9, w10⟩
                    · have q12 := ne_fresh (hnum 0) hfr; have q14 := ne_fresh (h14c 0) hfr; have qs := ne_fresh (b1' 0) hfr
                      exact ⟨hle.fresh hfr, q12.2, q12.1, q14.2, q14.1, qs.2, qs.1, fun c hc => by have := ne_fresh (hon2 c hc).1 hfr; exact ⟨this.2, this.1⟩, fun c hc => by have := ne_fresh (hog2 c hc).1 hfr; exact ⟨this.2, this.1⟩⟩
                  obtain ⟨m0, m1, m2, m3, m4, m5, m6, m7, m8⟩ := hq
                  refine turnA_self ⟨⟨j + 1, sts2, row ++ [ks.length], bst2, some c2⟩, by simp only; omega, by simp only; omega, by rw [← hks]; exact hsucc, hpre, hss, ((hle.del w1).new (hle.fresh hd1)).new m0, ?_, ?_, ⟨b0, ?_, b2', b3', b4', b5'⟩, fun b hb => ?_, fun b hb => ?_, fun b hb => ?_, by simp, ?_⟩
                  · intro off; rw [← hks]; simp [p12, m2, w4, hnum]
                  · intro off; simp [p14, m4, w6, h14c]
                  · intro off; simp [ps, m6, w8, b1']
                  · obtain ⟨v1, v2, v3⟩ := hon2 b hb
                    have v4 := ne_fresh v1 hd1; have v5 := m7 b hb; have v6 := w9 b hb
                    exact ⟨by simp [v4, v5, v6, v1], v2, v3⟩
                  · obtain ⟨v1, v2, v3⟩ := hog2 b hb
                    have v4 := ne_fresh v1 hd1; have v5 := m8 b hb; have v6 := w10 b hb
                    exact ⟨by simp [v4, v5, v6]; simpa using v1, v2, v3⟩
                  · cases hb
                    exact ⟨m0, by simp, m1, m2, m3, m4, m5, m6, m7, m8⟩
                  · simp [h1, h2, h3, h12, h14, h15, h16, h17, h18, h19, hwj, hng2, hl3]
            · obtain rfl : j = m.k := by omega
              rcases r with _ | r
              · have := hno2 rfl
                rw [this] at hl1; simp at hl1
                have := hm.k1; omega
              obtain ⟨w1, w2, w3, w4, w5, w6, w7, w8, w9, w10⟩ := hr r rfl
              have hit1 : rIter (clN m cl) (-1) m.k (cl.getD 0 0) (a + 1) = some (sts.map kc, rows ++ [row]) := by
                simp only [rIter, hit, Option.bind_some, hxk, hrow, Option.map_some]
              simp [h1, h2, h3, h12, h14, h15, h16, h17, h18, h19, hc1]
              refine turnA_row 18 r (n := row.length) (es := 1) (cs := row.map fun x : Nat => AV.int .i64 (x : Int)) h18 (by simp [w2]) (by simp) nats_frozen ?_
              have hrowA : AV.sl row.length (row.map fun x : Nat => AV.int .i64 (x : Int)) = natsA row := rfl
              rw [hrowA]
              have hleD := hle.del w1
              simp
              refine awp_draw_text (by kernel_rfl) [] [] (by kernel_rfl) (by kernel_rfl) (by simp) ?_
              simp [h1, h2, h3, h12, h14, h15, h16, h17, h18, h19, h14c, w5, w6]
              have r12 : ¬ r = b12 := w3
              have hsg : s < m.good.length := by rw [hm.gl]; exact hsn
              have hgd : m.good[s] = gk s := by rw [hgk]; simp [hsg]
              have hstk : sts.take (a + 1) = states.take a ++ [s] := by
                obtain ⟨E, hE⟩ := hpre
                rw [hE, List.take_append_of_le_length (by omega), List.take_succ_eq_append_getElem hak, hs]
              have gR : ∀ c, (c = r ∨ Fresh h c) → Fresh HB c ∧ (¬ c = b12 ∧ ¬ b12 = c) ∧ (¬ c = b14 ∧ ¬ b14 = c) ∧ (¬ c = bst ∧ ¬ bst = c) ∧ (∀ d, on = some d → ¬ c = d ∧ ¬ d = c) ∧ ∀ d, og = some d → ¬ c = d ∧ ¬ d = c := by
                intro c hc
                rcases hc with rfl | q
                · exact ⟨w1, ⟨w3, w4⟩, ⟨w5, w6⟩, ⟨w7, w8⟩, w9, w10⟩
                · exact ⟨hle.fresh q, (ne_fresh (hnum 0) q).symm, (ne_fresh (h14c 0) q).symm, (ne_fresh (b1' 0) q).symm, fun d hd => (ne_fresh (hon2 d hd).1 q).symm, fun d hd => (ne_fresh (hog2 d hd).1 q).symm⟩
              have n14 := ne_fresh (e1 0) f14; have nr := ne_fresh (e1 0) w1
              have h14c0 := h14c 0
              simp only [List.drop_zero] at h14c0
              have hgt : List.take (a + 1) (List.map (AV.bool ∘ gk) sts) = ((states.take a).map gk).map AV.bool ++ [.bool m.good[s]] := by
                rw [← List.map_take, hstk]; simp [hgd]
              have hglL : (((states.take a).map gk).map AV.bool).length = rows.length := by simp; omega
              rcases on with _ | o
              · have hrw : rows = [] := hno.1 rfl
                simp [h1, h2, h3, h12, h14, h15, h16, h17, h18, h19, h14c, hrw]
                intro c1 hd1
                simp at hd1
                obtain ⟨u1, u2, u3, u4, u5, u6⟩ := gR c1 hd1
                simp [h1, h2, h3, h12, h14, h15, h16, h17, h18, h19, h14c, u3, w5, w6, hrw]
                intro c2 hd2
                simp at hd2
                obtain ⟨v1, v2, v3, v4, v5, v6⟩ := gR c2 hd2.2.2
                have nc1 := ne_fresh (e1 0) u1; have nc2 := ne_fresh (e1 0) v1
                rcases og with _ | og
                · have hrw2 := hno.2 rfl
                  have ha0 : a = 0 := by rw [hrw2] at hrl; simp at hrl; omega
                  simp [h1, h2, h3, h12, h14, h15, h16, h17, h18, h19, h14c, u3, v3, w5, w6, n14, nr, nc1, nc2, hc1, boolsA, hsg, hd2, hrw, hrw2]
                  refine nameN (fun hY hhY => ?_)
                  have hleY : HLe HB hY := by
                    rw [hhY]; repeat (first | exact hle | refine HLe.new ?_ (by assumption) | refine HLe.del ?_ (by assumption))
                  have hnumY : ∀ off, cellsAt hY b12 off = some (((numF i (sts.map kc)).map (AV.int .i64)).drop off) := by
                    intro off; rw [hhY]; simp [u2, v2, w3, w4, z12, hnum, hd2, hrw, hrw2]
                  have hbsY : ∀ off, cellsAt hY bst off = some ((sts.map fun x : Nat => AV.int .i64 (x : Int)).drop off) := by
                    intro off; rw [hhY]; simp [u4, v4, w7, w8, b4', b5', b1', hd2, hrw, hrw2]
                  have h14Y : ∀ off, cellsAt hY b14 off = some (([.int .i64 (m.k : Int), .osl c2 0 (rows.length + 1) 1, ownV none rows.length 1] : List AV).drop off) := by
                    intro off; rw [hhY]; simp [hd2, hrw, hrw2]
                  have honY : cellsAt hY c2 0 = some ((rows ++ [row]).map natsA) := by
                    rw [hhY]; simp [v3, hd2, hrw, hrw2]
                  clear hhY
                  intro d1 hd1
                  have f1 := hleY.fresh hd1
                  have p14 := ne_fresh (h14Y 0) hd1; have p12 := ne_fresh (hnumY 0) hd1; have ps := ne_fresh (hbsY 0) hd1; have pn := ne_fresh honY hd1
                  simp [h1, h2, h3, h12, h14, h15, h16, h17, h18, h19, p14, h14Y, hrw2]
                  intro d2 hd2
                  simp at hd2
                  have f2 := hleY.fresh hd2.2.2
                  have q14 := ne_fresh (h14Y 0) hd2.2.2; have q12 := ne_fresh (hnumY 0) hd2.2.2; have qs := ne_fresh (hbsY 0) hd2.2.2; have qn := ne_fresh honY hd2.2.2
                  simp [h1, h2, h3, h12, h14, h15, h16, h17, h18, h19, p14, q14, h14Y, hwa, hrw2]
                  refine turnA_self ⟨⟨a + 1, sts, rows ++ [row], bst, some c2, some d2⟩, by simp only; omega, by simp only; omega, by simpa using hit1, hss, ((hleY.new f1).new f2).new f14, ?_, ?_, ⟨b0, ?_, b2', b3', b4', b5'⟩, ?_, ?_, by simp, by simp [h1, h2, h3, h12, h14, h15, h16, h17, h18, h19, hwa]⟩
                  · intro off; simp [p12, q12, z12, hnumY]
                  · intro off; simp [hrw2]
                  · intro off; simp [ps, qs, b4', b5', hbsY]
                  · intro b hb
                    cases hb
                    refine ⟨v1, by simp [pn, qn, v3]; simpa using honY, v2.1, v2.2, v3.1, v3.2, v4.1, v4.2⟩
                  · intro b hb
                    cases hb
                    refine ⟨f2, ?_, q12.2, q12.1, q14.2, q14.1, qs.2, qs.1, fun c hc => by cases hc; exact ⟨qn.2, qn.1⟩⟩
                    show cellsAt _ d2 0 = some (List.take (a + 1) (List.map (AV.bool ∘ gk) sts))
                    rw [hgt]; simp [q14, ha0]
                · obtain ⟨x1, x2, x3⟩ := hog2 og rfl
                  obtain ⟨x4, _, x5, x6, x7, x8, _, _, xo⟩ := hog og rfl
                  obtain ⟨x9, x10⟩ := w10 og rfl
                  obtain ⟨xa, xb⟩ := u6 og rfl
                  obtain ⟨xc, xd⟩ := v6 og rfl
                  simp [h1, h2, h3, h12, h14, h15, h16, h17, h18, h19, h14c, u3, v3, w5, w6, n14, nr, nc1, nc2, hc1, boolsA, hsg, hd2, hrw]
                  refine nameN (fun hY hhY => ?_)
                  have hleY : HLe HB hY := by
                    rw [hhY]; repeat (first | exact hle | refine HLe.new ?_ (by assumption) | refine HLe.del ?_ (by assumption))
                  have hnumY : ∀ off, cellsAt hY b12 off = some (((numF i (sts.map kc)).map (AV.int .i64)).drop off) := by
                    intro off; rw [hhY]; simp [u2, v2, w3, w4, z12, hnum, hd2, hrw]
                  have hbsY : ∀ off, cellsAt hY bst off = some ((sts.map fun x : Nat => AV.int .i64 (x : Int)).drop off) := by
                    intro off; rw [hhY]; simp [u4, v4, w7, w8, b4', b5', b1', hd2, hrw]
                  have h14Y : ∀ off, cellsAt hY b14 off = some (([.int .i64 (m.k : Int), .osl c2 0 (rows.length + 1) 1, ownV (some og) rows.length 1] : List AV).drop off) := by
                    intro off; rw [hhY]; simp [hd2, hrw]
                  have honY : cellsAt hY c2 0 = some ((rows ++ [row]).map natsA) := by
                    rw [hhY]; simp [v3, hd2, hrw]
                  have hogY : cellsAt hY og 0 = some (((states.take a).map gk).map AV.bool) := by
                    rw [hhY]; simp [x1, x2, x3, x7, x8, x9, x10, xa, xb, xc, xd, xo, hd2, hrw]
                  clear hhY
                  intro d1 hd1
                  have f1 := hleY.fresh hd1
                  have p14 := ne_fresh (h14Y 0) hd1; have p12 := ne_fresh (hnumY 0) hd1; have ps := ne_fresh (hbsY 0) hd1; have pn := ne_fresh honY hd1; have pg := ne_fresh hogY hd1
                  obtain ⟨gl, hgl⟩ : ∃ gl, gl = ((states.take a).map gk).map AV.bool := ⟨_, rfl⟩
                  rw [← hgl] at hogY hgt hglL
                  simp [h1, h2, h3, h12, h14, h15, h16, h17, h18, h19, p14, h14Y, pg, hogY, hglL, hd2, hrw]
                  skip
                  intro d2 hd2
                  simp at hd2
                  have hv2 : Fresh HB d2 ∧ (¬ d2 = b12 ∧ ¬ b12 = d2) ∧ (¬ d2 = b14 ∧ ¬ b14 = d2) ∧ (¬ d2 = bst ∧ ¬ bst = d2) ∧ (¬ d2 = c2 ∧ ¬ c2 = d2) := by
                    rcases hd2.2.2 with rfl | q
                    · exact ⟨x4, ⟨x5, x6⟩, ⟨x7, x8⟩, ⟨x2, x3⟩, ⟨xd, xc⟩⟩
                    · exact ⟨hleY.fresh q, (ne_fresh (hnumY 0) q).symm, (ne_fresh (h14Y 0) q).symm, (ne_fresh (hbsY 0) q).symm, (ne_fresh honY q).symm⟩
                  obtain ⟨f2, q12, q14, qs, qn⟩ := hv2
                  simp [h1, h2, h3, h12, h14, h15, h16, h17, h18, h19, p14, q14, h14Y, hwa, x7, x8, hd2, hrw]
                  refine turnA_self ⟨⟨a + 1, sts, rows ++ [row], bst, some c2, some d2⟩, by simp only; omega, by simp only; omega, by simpa using hit1, hss, (((hleY.del x4).new f1).new f2).new f14, ?_, ?_, ⟨b0, ?_, b2', b3', b4', b5'⟩, ?_, ?_, by simp, by simp [h1, h2, h3, h12, h14, h15, h16, h17, h18, h19, hwa]⟩
                  · intro off; simp [p12, q12, z12, x5, x6, hnumY]
                  · intro off; simp [hd2, hrw]
                  · intro off; simp [ps, qs, b4', b5', x2, x3, hbsY]
                  · intro b hb
                    cases hb
                    refine ⟨v1, by simp [pn, qn, v3, xc, xd]; simpa using honY, v2.1, v2.2, v3.1, v3.2, v4.1, v4.2⟩
                  · intro b hb
                    cases hb
                    refine ⟨f2, ?_, q12.1, q12.2, q14.1, q14.2, qs.1, qs.2, fun c hc => by cases hc; exact ⟨qn.1, qn.2⟩⟩
                    show cellsAt _ d2 0 = some (List.take (a + 1) (List.map (AV.bool ∘ gk) sts))
                    rw [hgt]; simp [q14]
              · obtain ⟨p1, p2, p3⟩ := hon2 o rfl
                obtain ⟨p4, _, p5, p6, p7, p8, _, _⟩ := hon o rfl
                obtain ⟨p9, p10⟩ := w9 o rfl
                have no := ne_fresh (e1 0) p4
                simp [h1, h2, h3, h12, h14, h15, h16, h17, h18, h19, h14c]
                intro c1 hd1
                simp at hd1
                obtain ⟨u1, u2, u3, u4, u5, u6⟩ := gR c1 hd1
                obtain ⟨u7, u8⟩ := u5 o rfl
                simp [h1, h2, h3, h12, h14, h15, h16, h17, h18, h19, h14c, u3, w5, w6, p1, u7, u8, p9, p10]
                refine ⟨by omega, ?_⟩
                intro c2 hd2
                simp at hd2
                have hv : Fresh HB c2 ∧ (¬ c2 = b12 ∧ ¬ b12 = c2) ∧ (¬ c2 = b14 ∧ ¬ b14 = c2) ∧ (¬ c2 = bst ∧ ¬ bst = c2) ∧ ∀ d, og = some d → ¬ c2 = d ∧ ¬ d = c2 := by
                  rcases hd2.2.2 with rfl | q
                  · exact ⟨p4, ⟨p5, p6⟩, ⟨p7, p8⟩, ⟨p2, p3⟩, fun d hd => ((hog d hd).2.2.2.2.2.2.2.2 _ rfl).symm⟩
                  · obtain ⟨v1, v2, v3, v4, v5, v6⟩ := gR c2 q
                    exact ⟨v1, v2, v3, v4, v6⟩
                obtain ⟨v1, v2, v3, v4, v6⟩ := hv
                have nc1 := ne_fresh (e1 0) u1; have nc2 := ne_fresh (e1 0) v1
                rcases og with _ | og
                · have hrw2 := hno.2 rfl
                  have ha0 : a = 0 := by rw [hrw2] at hrl; simp at hrl; omega
                  simp [h1, h2, h3, h12, h14, h15, h16, h17, h18, h19, h14c, u3, v3, w5, w6, n14, nr, nc1, nc2, hc1, boolsA, hsg, hd2, p2, p3, p5, p6, p7, p8, p9, p10, no, u7, u8, hrw2]
                  refine nameN (fun hY hhY => ?_)
                  have hleY : HLe HB hY := by
                    rw [hhY]; repeat (first | exact hle | refine HLe.new ?_ (by assumption) | refine HLe.del ?_ (by assumption))
                  have hnumY : ∀ off, cellsAt hY b12 off = some (((numF i (sts.map kc)).map (AV.int .i64)).drop off) := by
                    intro off; rw [hhY]; simp [u2, v2, w3, w4, z12, hnum, hd2, p2, p3, p5, p6, p7, p8, p9, p10, no, u7, u8, hrw2]
                  have hbsY : ∀ off, cellsAt hY bst off = some ((sts.map fun x : Nat => AV.int .i64 (x : Int)).drop off) := by
                    intro off; rw [hhY]; simp [u4, v4, w7, w8, b4', b5', b1', hd2, p2, p3, p5, p6, p7, p8, p9, p10, no, u7, u8, hrw2]
                  have h14Y : ∀ off, cellsAt hY b14 off = some (([.int .i64 (m.k : Int), .osl c2 0 (rows.length + 1) 1, ownV none rows.length 1] : List AV).drop off) := by
                    intro off; rw [hhY]; simp [hd2, p2, p3, p5, p6, p7, p8, p9, p10, no, u7, u8, hrw2]
                  have honY : cellsAt hY c2 0 = some ((rows ++ [row]).map natsA) := by
                    rw [hhY]; simp [v3, hd2, p2, p3, p5, p6, p7, p8, p9, p10, no, u7, u8, hrw2]
                  clear hhY
                  intro d1 hd1
                  have f1 := hleY.fresh hd1
                  have p14 := ne_fresh (h14Y 0) hd1; have p12 := ne_fresh (hnumY 0) hd1; have ps := ne_fresh (hbsY 0) hd1; have pn := ne_fresh honY hd1
                  simp [h1, h2, h3, h12, h14, h15, h16, h17, h18, h19, p14, h14Y, hrw2]
                  intro d2 hd2
                  simp at hd2
                  have f2 := hleY.fresh hd2.2.2
                  have q14 := ne_fresh (h14Y 0) hd2.2.2; have q12 := ne_fresh (hnumY 0) hd2.2.2; have qs := ne_fresh (hbsY 0) hd2.2.2; have qn := ne_fresh honY hd2.2.2
                  simp [h1, h2, h3, h12, h14, h15, h16, h17, h18, h19, p14, q14, h14Y, hwa, hrw2]
                  refine turnA_self ⟨⟨a + 1, sts, rows ++ [row], bst, some c2, some d2⟩, by simp only; omega, by simp only; omega, by simpa using hit1, hss, ((hleY.new f1).new f2).new f14, ?_, ?_, ⟨b0, ?_, b2', b3', b4', b5'⟩, ?_, ?_, by simp, by simp [h1, h2, h3, h12, h14, h15, h16, h17, h18, h19, hwa]⟩
                  · intro off; simp [p12, q12, z12, hnumY]
                  · intro off; simp [hrw2]
                  · intro off; simp [ps, qs, b4', b5', hbsY]
                  · intro b hb
                    cases hb
                    refine ⟨v1, by simp [pn, qn, v3]; simpa using honY, v2.1, v2.2, v3.1, v3.2, v4.1, v4.2⟩
                  · intro b hb
                    cases hb
                    refine ⟨f2, ?_, q12.2, q12.1, q14.2, q14.1, qs.2, qs.1, fun c hc => by cases hc; exact ⟨qn.2, qn.1⟩⟩
                    show cellsAt _ d2 0 = some (List.take (a + 1) (List.map (AV.bool ∘ gk) sts))
                    rw [hgt]; simp [q14, ha0]
                · obtain ⟨x1, x2, x3⟩ := hog2 og rfl
                  obtain ⟨x4, _, x5, x6, x7, x8, _, _, xo⟩ := hog og rfl
                  obtain ⟨x9, x10⟩ := w10 og rfl
                  obtain ⟨xa, xb⟩ := u6 og rfl
                  obtain ⟨xc, xd⟩ := v6 og rfl
                  simp [h1, h2, h3, h12, h14, h15, h16, h17, h18, h19, h14c, u3, v3, w5, w6, n14, nr, nc1, nc2, hc1, boolsA, hsg, hd2, p2, p3, p5, p6, p7, p8, p9, p10, no, u7, u8]
                  refine nameN (fun hY hhY => ?_)
                  have hleY : HLe HB hY := by
                    rw [hhY]; repeat (first | exact hle | refine HLe.new ?_ (by assumption) | refine HLe.del ?_ (by assumption))
                  have hnumY : ∀ off, cellsAt hY b12 off = some (((numF i (sts.map kc)).map (AV.int .i64)).drop off) := by
                    intro off; rw [hhY]; simp [u2, v2, w3, w4, z12, hnum, hd2, p2, p3, p5, p6, p7, p8, p9, p10, no, u7, u8]
                  have hbsY : ∀ off, cellsAt hY bst off = some ((sts.map fun x : Nat => AV.int .i64 (x : Int)).drop off) := by
                    intro off; rw [hhY]; simp [u4, v4, w7, w8, b4', b5', b1', hd2, p2, p3, p5, p6, p7, p8, p9, p10, no, u7, u8]
                  have h14Y : ∀ off, cellsAt hY b14 off = some (([.int .i64 (m.k : Int), .osl c2 0 (rows.length + 1) 1, ownV (some og) rows.length 1] : List AV).drop off) := by
                    intro off; rw [hhY]; simp [hd2, p2, p3, p5, p6, p7, p8, p9, p10, no, u7, u8]
                  have honY : cellsAt hY c2 0 = some ((rows ++ [row]).map natsA) := by
                    rw [hhY]; simp [v3, hd2, p2, p3, p5, p6, p7, p8, p9, p10, no, u7, u8]
                  have hogY : cellsAt hY og 0 = some (((states.take a).map gk).map AV.bool) := by
                    rw [hhY]; simp [x1, x2, x3, x7, x8, x9, x10, xa, xb, xc, xd, xo, hd2, p2, p3, p5, p6, p7, p8, p9, p10, no, u7, u8]
                  clear hhY
                  intro d1 hd1
                  have f1 := hleY.fresh hd1
                  have p14 := ne_fresh (h14Y 0) hd1; have p12 := ne_fresh (hnumY 0) hd1; have ps := ne_fresh (hbsY 0) hd1; have pn := ne_fresh honY hd1; have pg := ne_fresh hogY hd1
                  obtain ⟨gl, hgl⟩ : ∃ gl, gl = ((states.take a).map gk).map AV.bool := ⟨_, rfl⟩
                  rw [← hgl] at hogY hgt hglL
                  simp [h1, h2, h3, h12, h14, h15, h16, h17, h18, h19, p14, h14Y, pg, hogY, hglL, hd2, p2, p3, p5, p6, p7, p8, p9, p10, no, u7, u8]
                  refine ⟨by omega, ?_⟩
                  intro d2 hd2
                  simp at hd2
                  have hv2 : Fresh HB d2 ∧ (¬ d2 = b12 ∧ ¬ b12 = d2) ∧ (¬ d2 = b14 ∧ ¬ b14 = d2) ∧ (¬ d2 = bst ∧ ¬ bst = d2) ∧ (¬ d2 = c2 ∧ ¬ c2 = d2) := by
                    rcases hd2.2.2 with rfl | q
                    · exact ⟨x4, ⟨x5, x6⟩, ⟨x7, x8⟩, ⟨x2, x3⟩, ⟨xd, xc⟩⟩
                    · exact ⟨hleY.fresh q, (ne_fresh (hnumY 0) q).symm, (ne_fresh (h14Y 0) q).symm, (ne_fresh (hbsY 0) q).symm, (ne_fresh honY q).symm⟩
                  obtain ⟨f2, q12, q14, qs, qn⟩ := hv2
                  simp [h1, h2, h3, h12, h14, h15, h16, h17, h18, h19, p14, q14, h14Y, hwa, x7, x8, hd2, p2, p3, p5, p6, p7, p8, p9, p10, no, u7, u8]
                  refine turnA_self ⟨⟨a + 1, sts, rows ++ [row], bst, some c2, some d2⟩, by simp only; omega, by simp only; omega, by simpa using hit1, hss, (((hleY.del x4).new f1).new f2).new f14, ?_, ?_, ⟨b0, ?_, b2', b3', b4', b5'⟩, ?_, ?_, by simp, by simp [h1, h2, h3, h12, h14, h15, h16, h17, h18, h19, hwa]⟩
                  · intro off; simp [p12, q12, z12, x5, x6, hnumY]
                  · intro off; simp [hd2, p2, p3, p5, p6, p7, p8, p9, p10, no, u7, u8]
                  · intro off; simp [ps, qs, b4', b5', x2, x3, hbsY]
                  · intro b hb
                    cases hb
                    refine ⟨v1, by simp [pn, qn, v3, xc, xd]; simpa using honY, v2.1, v2.2, v3.1, v3.2, v4.1, v4.2⟩
                  · intro b hb
                    cases hb
                    refine ⟨f2, ?_, q12.1, q12.2, q14.1, q14.2, qs.1, qs.2, fun c hc => by cases hc; exact ⟨qn.1, qn.2⟩⟩
                    show cellsAt _ d2 0 = some (List.take (a + 1) (List.map (AV.bool ∘ gk) sts))
                    rw [hgt]; simp [q14]
          · obtain rfl : a = F := by omega
            have hsF := F4 _ hit
            simp only [List.length_map] at hsF
            rcases on with _ | o
            · have := hno.1 rfl
              rw [this] at hrl; simp at hrl; omega
            rcases og with _ | og
            · have := hno.2 rfl
              rw [this] at hrl; simp at hrl; omega
            obtain ⟨p4, p1, p5, p6, p7, p8, p2, p3⟩ := hon o rfl
            obtain ⟨x4, x1, x5, x6, x7, x8, x2, x3, xo⟩ := hog og rfl
            have hfinL := fin_least hm hf states rows a hss F3 hsF (by rw [hkc] at hit; exact hit)
            have h2h := hle.cells e2
            have f2 := ne_fresh e2 f14; have f2o := ne_fresh e2 p4; have f2g := ne_fresh e2 x4
            have hlg : min a states.length = rows.length := by omega
            simp [h1, h2, h3, h12, h14, h15, h16, hsF, h14c, h2h, f2]
            refine finA_all 3 ?_
            rw [← hfinL]
            have hst2 : states.length ≤ a := by omega
            have hr2 : rows.length ≤ a := by omega
            simp [Dfa.av, nrowsA, boolsA, p1, x1, hsF, hrl, hgk, f2o, f2g, List.take_of_length_le, hst2, hr2]
      · have hmmI : ¬ (many' : Int) = many := by omega
        simp [h1, h2, h3, h5, h6, h7, h8, hmm, hmmI]
        refine turnA_self ⟨⟨clsF κ m.next.length, many', bn⟩, by simp only; omega, hnext, hc1, hc2, ?_, ?_⟩
        · intro off; simpa [Function.comp_def] using hcn off
        · simp [h1, h2, h3, h5, h6, h7, h8]
end Go.Proofs

end
