/-
  Plain law: a group witness, or free of groups.
-/
import Derived.Test.YtobhipohnjmnhaaWdGr2
import Derived.Test.YtobhipohnjmnhaaWdGrp
import Derived.Test.YtobhipohnjmnhaaWdFst
set_option linter.unusedSimpArgs false
set_option linter.unusedVariables false
set_option linter.unusedSectionVars false
namespace Go.Proofs
open Go Go.AH
set_option maxRecDepth 10000
set_option maxHeartbeats 4000000

/-! ### Rounds -/
theorem itf_fix {f : Nat → Nat} {t : Nat} (h : f t = t) : ∀ q, itf f q t = t
  | 0 => rfl
  | q + 1 => by simp only [itf]; rw [itf_fix h q, h]
theorem itf_mul {f : Nat → Nat} {s d : Nat} (h : itf f d s = s) : ∀ q, itf f (d * q) s = s
  | 0 => rfl
  | q + 1 => by rw [Nat.mul_succ, itf_add, h, itf_mul h q]
/-- A state moved round by more than one: the state that n steps lead to moves, too. -/
theorem round_moves {f : Nat → Nat} {n s : Nat} (h : 1 < perF f n s) : f (itf f n s) ≠ itf f n s := by
  intro e
  rcases perF_spec f n s with ⟨h0, _⟩ | ⟨j, hj, h1, h2, h3⟩
  · omega
  · have hq := itf_mul h2 (n + 1)
    have hge : n ≤ (j + 1) * (n + 1) := by
      have : 1 * (n + 1) ≤ (j + 1) * (n + 1) := Nat.mul_le_mul_right _ (by omega)
      omega
    obtain ⟨q, hqq⟩ : ∃ q, (j + 1) * (n + 1) = q + n := ⟨(j + 1) * (n + 1) - n, by omega⟩
    rw [hqq, itf_add, itf_fix e] at hq
    rw [hq] at e
    exact h3 0 (by omega) e
/-- What n steps lead to comes back to itself within n. -/
theorem round_back {f : Nat → Nat} {n s : Nat} (hf : ∀ x, x < n → f x < n) (hs : s < n) : ∃ d, d < n ∧ itf f (d + 1) (itf f n s) = itf f n s := by
  have hcol : ∃ a b, a < b ∧ b ≤ n ∧ itf f a s = itf f b s := by
    refine Classical.byContradiction fun hno => ?_
    have hnd : ((List.range (n + 1)).map fun i => itf f i s).Nodup := by
      rw [List.Nodup, List.pairwise_iff_getElem]
      intro i j hi hj hij
      simp at hi hj
      simp only [List.getElem_map, List.getElem_range]
      exact fun e => hno ⟨i, j, hij, by omega, e⟩
    have := nodup_lt n _ hnd (fun x hx => by
      obtain ⟨i, _, rfl⟩ := List.mem_map.1 hx
      exact itf_lt hf hs i)
    simp at this
    omega
  obtain ⟨a, b, hab, hb, e⟩ := hcol
  refine ⟨b - a - 1, by omega, ?_⟩
  rw [← itf_add, show b - a - 1 + 1 + n = (n - a) + b from by omega, itf_add, ← e, ← itf_add]
  congr 1; omega

theorem actR_natL {x : List UInt8} {s : Nat} (hs : s < x.length) : actR (natL x) s = actS x s := by
  rw [actR_at (by simpa using hs)]; simp [natL, actS, hs]
theorem free_one {x : List UInt8} (hx : ∀ b ∈ x, b.toNat < x.length) : freeR (natL x) = (grp1 x).isNone := by
  have hf : ∀ y, y < x.length → actS x y < x.length := fun y hy => by
    have : actS x y = x[y].toNat := by simp [actS, hy]
    rw [this]; exact hx _ (List.getElem_mem hy)
  have hfr : ∀ y, y < x.length → actR (natL x) y < x.length := fun y hy => by rw [actR_natL hy]; exact hf y hy
  have hit : ∀ s, s < x.length → itf (actR (natL x)) x.length s = itf (actS x) x.length s := fun s hs => itf_congr hfr (fun y hy => actR_natL hy) hs _
  cases hg : grp1 x with
  | none =>
    have hn := findSome_none hg
    simp only [Option.isNone_none]
    refine List.all_eq_true.2 fun s hs => ?_
    have hs' : s < x.length := by simpa using hs
    rw [natL_len, hit s hs', actR_natL (itf_lt hf hs' _), beq_iff_eq]
    have ht := itf_lt hf hs' x.length
    obtain ⟨d, hd, e⟩ := round_back hf hs'
    generalize itf (actS x) x.length s = t at ht e
    have h1 := hn t ht
    rcases perF_spec (actS x) x.length t with ⟨_, h0⟩ | ⟨j, hj, h2, h3, _⟩
    · exact absurd e (h0 d hd)
    · by_cases hj0 : j = 0
      · subst hj0; exact h3
      · rw [if_pos (by omega)] at h1; cases h1
  | some p =>
    obtain ⟨s, hs, e⟩ := findSome_is hg
    have hp : 1 < perF (actS x) x.length s := by
      by_cases h : 1 < perF (actS x) x.length s
      · exact h
      · rw [if_neg h] at e; cases e
    have hm := round_moves hp
    simp only [Option.isNone_some]
    rw [Bool.eq_false_iff]
    intro h
    have := List.all_eq_true.1 h s (by simpa using hs)
    rw [natL_len, hit s hs, actR_natL (itf_lt hf hs _), beq_iff_eq] at this
    exact hm this
theorem free_all {K : List (List UInt8)} (hK : ∀ x ∈ K, ∀ b ∈ x, b.toNat < x.length) : freeF (K.map natL) = (grpF K).isNone := by
  cases hg : grpF K with
  | none =>
    have hn := findSome_none hg
    refine List.all_eq_true.2 fun r hr => ?_
    obtain ⟨x, hx, rfl⟩ := List.mem_map.1 hr
    obtain ⟨i, hi, rfl⟩ := List.mem_iff_getElem.1 hx
    rw [free_one (hK _ hx)]
    have := hn i hi
    rw [show K.getD i [] = K[i] from by simp [hi]] at this
    cases h : grp1 K[i] with
    | none => rfl
    | some p => rw [h] at this; cases this
  | some v =>
    obtain ⟨i, hi, e⟩ := findSome_is hg
    rw [show K.getD i [] = K[i] from by simp [hi]] at e
    simp only [Option.isNone_some]
    rw [Bool.eq_false_iff]
    intro h
    have := List.all_eq_true.1 h (natL K[i]) (List.mem_map.2 ⟨_, List.getElem_mem hi, rfl⟩)
    rw [free_one (hK _ (List.getElem_mem hi))] at this
    cases h2 : grp1 K[i] with
    | none => rw [h2] at e; cases e
    | some p => rw [h2] at this; cases this

/-! ### The words of the maps -/
theorem run_behind {M : Dfa} (hM : M.wf) (hn : M.next.length ≤ 128) : ∀ (w : List Nat) (x : List UInt8), Ok M.k w → (∀ b ∈ x, b.toNat < M.next.length) → (runN (behind M) x w).length = x.length ∧ ∀ s, s < x.length → actS (runN (behind M) x w) s = goW M (actS x s) w
  | [], x, _, _ => ⟨rfl, fun _ _ => rfl⟩
  | i :: w, x, hw, hx => by
    have hi : i < M.k := hw i (by simp)
    obtain ⟨h1, h2⟩ := run_behind hM hn w (behind M x i) (fun j hj => hw j (by simp [hj])) (behind_lt M hM hn x hx i hi)
    have hl : (behind M x i).length = x.length := by simp [behind]
    refine ⟨h1.trans hl, fun s hs => ?_⟩
    have h3 := h2 s (by omega)
    have h4 : actS (behind M x i) s = nx M (actS x s) i := by
      have hxs := hx _ (List.getElem_mem hs)
      have hr := row_lt hM hxs hi
      simp only [actS, behind, List.getD_eq_getElem?_getD, List.getElem?_map, List.getElem?_eq_getElem hs, Option.map_some, Option.getD_some, nx]
      simp only [List.getD_eq_getElem?_getD] at hr
      rw [UInt8.toNat_ofNat']
      omega
    show actS (runN (behind M) (behind M x i) w) s = goW M (nx M (actS x s) i) w
    rw [h3, h4]
theorem mon_words {M : Dfa} (hM : M.wf) (hn : M.next.length ≤ 128) {st : List (List UInt8) × List (List Nat)} (e : monF M = some st) {i : Nat} (hi : i < st.1.length) :
    (∀ b ∈ wd (rowsM M.k st.2) i, badB M.k b = false) ∧ (wd (rowsM M.k st.2) i).length ≤ i ∧ ∀ s, s < M.next.length → actS (st.1.getD i []) s = goW M s (lts (wd (rowsM M.k st.2) i)) := by
  have o := mon_ok hM hn e
  have hmost := fun a st => rIter_most (behind M) 5000 (by omega) M.k (idS M.next.length) a st
  obtain ⟨F, F1, F2, F3, F4, F5⟩ := rIter_all (behind M) (5000 : Nat) M.k (idS M.next.length) 5000 hmost
  have e' : rIter (behind M) (5000 : Nat) M.k (idS M.next.length) F = some st := F5.trans e
  have hl := F4 _ e'
  obtain ⟨v1, v2⟩ := rIter_val _ _ _ _ F _ F3 e'
  have hbf : Bf (rowsM M.k st.2) := rIter_bf _ _ _ _ F _ F3 hl e' _
  have hR := o.wf
  have hRn : (rowsM M.k st.2).next.length = st.1.length := o.rn
  have hRk : (rowsM M.k st.2).k = M.k := rfl
  obtain ⟨g1, g2⟩ := wd_go hR hbf (s := i) (by rw [hRn]; exact hi)
  have go : ∀ (w : List Nat) (s : Nat) (x : List UInt8), Ok M.k w → st.1[s]? = some x → st.1[goW (rowsM M.k st.2) s w]? = some (runN (behind M) x w) := by
    intro w
    induction w with
    | nil => intro s x _ h; exact h
    | cons j w ih =>
      intro s x hw h
      obtain ⟨y, h1, h2⟩ := v2 s (by have := (List.getElem?_eq_some_iff.1 h).1; omega) j (hw j (by simp))
      rw [h] at h1; cases h1
      exact ih _ _ (fun q hq => hw q (by simp [hq])) h2
  have hok : Ok M.k (lts (wd (rowsM M.k st.2) i)) := lts_ok g2
  have h1 := go _ 0 _ hok v1
  rw [g1] at h1
  obtain ⟨r1, r2⟩ := run_behind hM hn (lts (wd (rowsM M.k st.2) i)) (idS M.next.length) hok (idS_lt _ hn)
  refine ⟨g2, ?_, fun s hs => ?_⟩
  · have key : ∀ n t, t < n → t < (rowsM M.k st.2).next.length → (wd (rowsM M.k st.2) t).length ≤ t := by
      intro n
      induction n with
      | zero => intro t h; omega
      | succ n ih =>
        intro t h ht
        by_cases h0 : t = 0
        · subst h0
          have : lts (wd (rowsM M.k st.2) 0) = [] := wn_zero hR
          have := congrArg List.length this
          simp [lts] at this
          simp [this]
        · obtain ⟨p, j, hp⟩ := par_of hbf (by omega) ht
          rw [wd_par hR hbf ht hp]
          have := hp.lt
          have := ih p (by omega) (by omega)
          simp; omega
    exact key (i + 1) i (by omega) (by rw [hRn]; exact hi)
  · have h2 : st.1.getD i [] = runN (behind M) (idS M.next.length) (lts (wd (rowsM M.k st.2) i)) := by
      rw [List.getD_eq_getElem?_getD, h1]; rfl
    have h3 := r2 s (by rw [idS_len]; exact hs)
    have h4 : actS (idS M.next.length) s = s := by simp [actS, idS, hs]; omega
    rw [h2, h3, h4]
theorem wordErr_ok {k : Nat} {w : List UInt8} (h : ∀ b ∈ w, badB k b = false) (hl : w.length ≤ 5000) : wordErr k w = 0 := by
  have : w.any (badB k) = false := by
    rw [List.any_eq_false]
    intro b hb
    simp [h b hb]
  rw [wordErr, this, if_neg (by simp), if_neg (by omega)]
theorem group_is {m : Dfa} (hm : m.ok) {st : List (List UInt8) × List (List Nat)} (e : monF (leastF m) = some st) {i p : Nat} (hg : grpF st.1 = some (i, p)) : grpB m ((classesF (rowsM (leastF m).k st.2)).getD i []) p = true ∧ ((classesF (rowsM (leastF m).k st.2)).getD i []).length ≤ 5000 := by
  have hW := (least_canon hm.wf).wf
  have hk := least_k hm.wf
  have hn128 : (leastF m).next.length ≤ 128 := by have := least_n hm.wf; have := hm.n64; omega
  have o := mon_ok hW hn128 e
  obtain ⟨j, hj, h1⟩ := findSome_is hg
  cases h2 : grp1 (st.1.getD j []) with
  | none => rw [h2] at h1; cases h1
  | some q =>
    rw [h2] at h1
    cases h1
    obtain ⟨g1, g2, g3⟩ := mon_words hW hn128 e hj
    obtain ⟨s, hs, h3⟩ := findSome_is h2
    have hx := o.inv (st.1.getD i []) (by rw [List.getD_eq_getElem?_getD, List.getElem?_eq_getElem hj]; exact List.getElem_mem hj)
    have hc : (classesF (rowsM (leastF m).k st.2)).getD i [] = wd (rowsM (leastF m).k st.2) i := by
      rw [List.getD_eq_getElem?_getD, classes_get, if_pos (by have := o.rn; simp only [rowsM]; omega)]; rfl
    rw [hc]
    have hp : 1 < perF (actS (st.1.getD i [])) (st.1.getD i []).length s := by
      by_cases h : 1 < perF (actS (st.1.getD i [])) (st.1.getD i []).length s
      · exact h
      · rw [if_neg h] at h3; cases h3
    rw [if_pos hp] at h3
    have hpp : perF (actS (st.1.getD i [])) (st.1.getD i []).length s = p := Option.some.inj h3
    have hle := o.le
    rw [hx.2] at hs hpp hp
    refine ⟨grpB_yes (wordErr_ok (by rw [← hk]; exact g1) (by omega)) (by omega) hs ?_, by omega⟩
    rw [← hpp]
    have hpc : perF (actS (st.1.getD i [])) (leastF m).next.length s = perF (fun t => goW (leastF m) t (lts (wd (rowsM (leastF m).k st.2) i))) (leastF m).next.length s := by
     refine perF_congr (fun y hy => ?_) (fun y hy => ?_) hs
     · rw [g3 y hy]; exact goW_lt hW _ y hy (lts_ok g1)
     · exact g3 y hy
    rw [hpc]
end Go.Proofs
