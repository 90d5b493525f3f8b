/-
  Plain laws: the least machine is the one of its language whose states are numbered by first words, no two alike.
-/
import Derived.Test.YtobhipohnjmnhaaWdK
set_option linter.unusedSimpArgs false
set_option linter.unusedVariables false
set_option linter.unusedSectionVars false
namespace Go.Proofs
open Go Go.AH
set_option maxRecDepth 10000
set_option maxHeartbeats 4000000

theorem LstOut.simk {m M : Dfa} (hm : m.wf) (l : LstOut m M) : ∃ (J : Nat) (keys : List Nat), Sim m M (fun s j => s < m.next.length ∧ keys[j]? = some ((refI m J).1.getD s 0)) ∧ keys.Nodup ∧ Bf M := by
  obtain ⟨J, F, keys, rows, a1, a2, a3, a4, a5, rfl⟩ := l
  obtain ⟨v1, v2⟩ := rIter_val _ _ _ _ F _ a5 a3
  have hrl := rIter_rows _ _ _ _ F _ a5 a3
  have hnd := (rIter_inv _ (-1) (fun _ => True) m.k (fun _ _ _ _ => trivial) _ trivial F _ a3).1
  have hbf := rIter_bf _ _ _ _ F _ a5 a4 a3 (keys.map fun x => m.good.getD ((someF m (refI m J).1 (refI m J).2 m.next.length).getD x 0) false)
  simp only at v1 v2 hrl hnd
  have h0 := (List.getElem?_eq_some_iff.1 v1).1
  have hn1 := hm.n1
  have some_ok : ∀ s, s < m.next.length → (someF m (refI m J).1 (refI m J).2 m.next.length).getD ((refI m J).1.getD s 0) 0 < m.next.length ∧ (refI m J).1.getD ((someF m (refI m J).1 (refI m J).2 m.next.length).getD ((refI m J).1.getD s 0) 0) 0 = (refI m J).1.getD s 0 :=
    fun s hs => someF_get m _ _ _ (fun s hs => refI_lt m J s hs) _ ⟨s, hs, rfl⟩
  refine ⟨J, keys, ⟨rfl, ⟨by omega, v1⟩, fun s t h => ⟨h.1, ?_⟩, fun s t h => ?_, fun s t h i hi => ?_⟩, hnd, hbf⟩
  · have := (List.getElem?_eq_some_iff.1 h.2).1
    simp only; omega
  · obtain ⟨hs, ht⟩ := h
    obtain ⟨p1, p2⟩ := some_ok s hs
    simp only [List.getD_eq_getElem?_getD, List.getElem?_map, ht, Option.map_some, Option.getD_some]
    have := refI_fine m J s _ hs p1 p2.symm
    simpa only [List.getD_eq_getElem?_getD] using this
  · obtain ⟨hs, ht⟩ := h
    have htl := (List.getElem?_eq_some_iff.1 ht).1
    obtain ⟨x, w1, w2⟩ := v2 t (by omega) i hi
    rw [ht] at w1
    cases w1
    obtain ⟨p1, p2⟩ := some_ok s hs
    refine ⟨row_lt hm hs hi, ?_⟩
    rw [w2, stepC]
    rw [refI_stable m hm J a2 _ s p1 hs p2 i hi]

theorem least_canon {m : Dfa} (hm : m.wf) : Canon (leastF m) := by
  obtain ⟨J, keys, S, hnd, hbf⟩ := (lst_ok hm).simk hm
  have hw := least_wf hm
  refine ⟨hw, hbf, fun s t hs ht h => ?_⟩
  obtain ⟨u, hu, eu⟩ := hbf.word hs
  obtain ⟨v, hv, ev⟩ := hbf.word ht
  have hk := least_k hm
  have su := S.go u 0 0 (by rw [← hk]; exact hu) S.start
  have sv := S.go v 0 0 (by rw [← hk]; exact hv) S.start
  rw [eu] at su
  rw [ev] at sv
  have e : (refI m J).1.getD (goW m 0 u) 0 = (refI m J).1.getD (goW m 0 v) 0 := refI_apart m hm J _ _ su.1 sv.1 fun w hw => by
    have h1 := S.good _ _ (S.go w _ _ hw su)
    have h2 := S.good _ _ (S.go w _ _ hw sv)
    rw [h1, h2]
    exact h w (by rw [hk]; exact hw)
  have h1 := su.2; have h2 := sv.2
  rw [e] at h1
  have hsl := (List.getElem?_eq_some_iff.1 h1).1
  have htl := (List.getElem?_eq_some_iff.1 h2).1
  rw [List.getElem?_eq_getElem hsl] at h1
  rw [List.getElem?_eq_getElem htl] at h2
  exact (List.getElem_inj hnd).1 (Option.some.inj (h1.trans h2.symm))

/-- Machines of one language have one least machine. -/
theorem least_lang {m m' : Dfa} (hm : m.wf) (hm' : m'.wf) (hk : m.k = m'.k) (hl : ∀ w, Ok m.k w → accW m w = accW m' w) : leastF m = leastF m' :=
  (least_canon hm).unique (least_canon hm') (by rw [least_k hm, least_k hm', hk]) fun w hw => by
    rw [least_k hm] at hw
    rw [least_acc hm w hw, least_acc hm' w (by rw [← hk]; exact hw), hl w hw]
/-- What is such a machine of m's language is the least one. -/
theorem Canon.least {m M : Dfa} (c : Canon M) (hm : m.wf) (hk : M.k = m.k) (hl : ∀ w, Ok m.k w → accW M w = accW m w) : M = leastF m :=
  c.unique (least_canon hm) (by rw [least_k hm, hk]) fun w hw => by rw [hk] at hw; rw [least_acc hm w hw, hl w hw]
/-- The least machine of the least machine is itself. -/
theorem least_least {m : Dfa} (hm : m.wf) : leastF (leastF m) = leastF m := ((least_canon hm).least (least_wf hm) rfl fun _ _ => rfl).symm
end Go.Proofs
