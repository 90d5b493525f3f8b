/-
  Walks: the reference's Check (of an automaton), and its IsGroup.
-/
import Derived.Test.YtobhipohnjmnhaaWdPer
import Derived.Test.YtobhipohnjmnhaaV8
import Derived.Test.YtobhipohnjmnhaaWdWd
set_option linter.unusedSimpArgs false
set_option linter.unusedVariables false
set_option linter.unusedSectionVars false
namespace Go.Proofs
open Go Go.AH
set_option maxRecDepth 10000
set_option maxHeartbeats 4000000

theorem w_refCheck (m : Dfa) (hm : m.ok) : Pure Try.prog 64 [m.av] (.int .i64 0) := by
  refine pure_of (acalls_of Try.func64 rfl Try.call64 (by kernel_rfl) (by show _ ≤ (77 : Nat); simp) ?_)
  have h1 := hm.k1; have h4 := hm.k4; have hn1 := hm.n1; have hn64 := hm.n64; have hg := hm.gl
  have e1 : ¬ (m.k : Int) < 1 := by omega
  have e2 : ¬ 4 < (m.k : Int) := by omega
  have e3 : ¬ (m.next.length : Int) < 1 := by omega
  have e4 : ¬ 64 < (m.next.length : Int) := by omega
  simp [Dfa.av]
  intro b1 hb1
  simp [e1, e2, e3, e4, nrowsA, boolsA, hg]
  refine awp_loop_g (γ := Nat) (fun s t h => (s ≤ m.next.length) ∧ t 1 = .ptr b1 0 ∧ t 3 = .int .i64 s ∧ h = AHeap.empty.upd b1 (.cells [.int .i64 m.k, .sl m.next.length (m.next.map natsA), .sl m.next.length (m.good.map .bool)])) (fun s => m.next.length - s) (0) (turnA_self (by simp)) ?_
  rintro s t h ⟨hs, h1, h3, rfl⟩
  by_cases hlt : s < m.next.length
  · have hws : IntKind.i64.wrap ((s : Int) + 1) = (s : Int) + 1 := wrap_i64 (by omega) (by omega)
    have hrl : m.next[s].length = m.k := hm.rl _ (List.getElem_mem hlt)
    simp [h1, h3, hlt]
    refine awp_draw_text (by kernel_rfl) [] [] (by kernel_rfl) (by kernel_rfl) (by simp) ?_
    simp [h1, h3, hlt, natsA, hrl]
    refine awp_loop_g (γ := Nat) (fun i t h => (i ≤ m.k) ∧ t 1 = .ptr b1 0 ∧ t 3 = .int .i64 s ∧ t 4 = .int .i64 i ∧ h = AHeap.empty.upd b1 (.cells [.int .i64 m.k, .sl m.next.length (m.next.map natsA), .sl m.next.length (m.good.map .bool)])) (fun i => m.k - i) (0) (turnA_self (by simp [h1, h3])) ?_
    rintro i t h ⟨hi, h1, h3, h4, rfl⟩
    by_cases hlti : i < m.k
    · have hwi : IntKind.i64.wrap ((i : Int) + 1) = (i : Int) + 1 := wrap_i64 (by omega) (by omega)
      have hx := hm.lt _ (List.getElem_mem hlt) _ (List.getElem_mem (show i < m.next[s].length by omega))
      have x1 : ¬ (m.next[s][i] : Int) < 0 := by omega
      have x2 : ¬ (m.next.length : Int) ≤ (m.next[s][i] : Int) := by omega
      have x3 : ¬ m.next.length ≤ m.next[s][i] := by omega
      simp [h1, h3, h4, hlti]
      refine awp_draw_text (by kernel_rfl) [] [] (by kernel_rfl) (by kernel_rfl) (by simp) ?_
      simp [h1, h3, h4, hlt, hlti, natsA, hrl, x1, x2, x3]
      exact turnA_self ⟨i + 1, by omega, by omega, by simp [h1, h3, h4, hwi, natsA]⟩
    · obtain rfl : i = m.k := by omega
      simp [h1, h3, h4]
      exact turnA_self ⟨s + 1, by omega, by omega, by simp [h1, h3, h4, hws, natsA]⟩
  · obtain rfl : s = m.next.length := by omega
    simp [h1, h3]
    exact finA_drop rfl

/-- What a word makes of the states of the least automaton: has it a way round of p? -/
noncomputable def grpB (m : Dfa) (w : List UInt8) (p : Int) : Bool := decide (wordErr m.k w = 0) && decide (2 ≤ p) && (List.range (leastF m).next.length).any fun s => decide ((perF (fun t => goW (leastF m) t (lts w)) (leastF m).next.length s : Int) = p)
/-- Where a way leads, as far as it has not been: none of it twice, and not where it began. -/
structure Seen (f : Nat → Nat) (n s j : Nat) : Prop where
  off : ∀ i, i < j → itf f (i + 1) s ≠ s
  one : ((List.range j).map fun i => itf f (i + 1) s).Nodup
theorem Seen.le {f : Nat → Nat} {n s j : Nat} (hf : ∀ x, x < n → f x < n) (hs : s < n) (v : Seen f n s j) : j < n := by
  have hnd : (s :: (List.range j).map fun i => itf f (i + 1) s).Nodup := by
    rw [List.nodup_cons]
    refine ⟨fun hm => ?_, v.one⟩
    obtain ⟨i, hi, e⟩ := List.mem_map.1 hm
    exact v.off i (by simpa using hi) e
  have := nodup_lt n _ hnd (fun x hx => by
    rcases List.mem_cons.1 hx with rfl | hx
    · exact hs
    · obtain ⟨i, _, rfl⟩ := List.mem_map.1 hx
      exact itf_lt hf hs _)
  simp at this
  omega
theorem Seen.next {f : Nat → Nat} {n s j : Nat} (v : Seen f n s j) (h1 : itf f (j + 1) s ≠ s) (h2 : ∀ i, i < j → itf f (i + 1) s ≠ itf f (j + 1) s) : Seen f n s (j + 1) := by
  refine ⟨fun i hi => ?_, ?_⟩
  · by_cases e : i = j
    · subst e; exact h1
    · exact v.off i (by omega)
  · rw [List.range_succ, List.map_append, List.nodup_append]
    refine ⟨v.one, by simp, fun a ha b hb => ?_⟩
    obtain ⟨i, hi, rfl⟩ := List.mem_map.1 ha
    simp at hb
    subst hb
    exact h2 i (by simpa using hi)
/-- Where it has been already, it goes on as before: it never comes back to where it began. -/
theorem Seen.again {f : Nat → Nat} {n s j i : Nat} (v : Seen f n s j) (hi : i < j) (e : itf f (i + 1) s = itf f (j + 1) s) : ∀ d, itf f (d + 1) s ≠ s := by
  -- every step from i on is one of those seen
  have key : ∀ d, ∃ q, q < j ∧ itf f (d + 1) s = itf f (q + 1) s := by
    intro d
    induction d with
    | zero => exact ⟨0, by omega, rfl⟩
    | succ d ih =>
      obtain ⟨q, hq, e1⟩ := ih
      have e2 : itf f (d + 1 + 1) s = itf f (q + 1 + 1) s := by show f (itf f (d + 1) s) = f (itf f (q + 1) s); rw [e1]
      by_cases h : q + 1 < j
      · exact ⟨q + 1, h, e2⟩
      · have : q + 1 = j := by omega
        rw [this] at e2
        exact ⟨i, hi, by rw [e2, e]⟩
  intro d
  obtain ⟨q, hq, e1⟩ := key d
  rw [e1]; exact v.off q hq
def seenF (f : Nat → Nat) (n s j : Nat) : List Bool := (List.range n).map fun q => decide (q ∈ (List.range j).map fun i => itf f (i + 1) s)
@[simp] theorem seenF_len (f : Nat → Nat) (n s j : Nat) : (seenF f n s j).length = n := by simp [seenF]
theorem seenF_zero (f : Nat → Nat) (n s : Nat) : seenF f n s 0 = List.replicate n false := by
  refine List.ext_getElem (by simp) fun q h1 h2 => ?_
  simp [seenF]
theorem seenF_get (f : Nat → Nat) (n s j q : Nat) (h : q < (seenF f n s j).length) : (seenF f n s j)[q] = decide (q ∈ (List.range j).map fun i => itf f (i + 1) s) := by simp only [seenF, List.getElem_map, List.getElem_range]
theorem seenF_succ (f : Nat → Nat) (n s j : Nat) : seenF f n s (j + 1) = (seenF f n s j).set (itf f (j + 1) s) true := by
  refine List.ext_getElem (by simp) fun q h1 h2 => ?_
  rw [List.getElem_set, seenF_get]
  by_cases e : itf f (j + 1) s = q
  · rw [if_pos e, decide_eq_true_iff, List.range_succ, List.map_append]
    simp [e]
  · rw [if_neg e, seenF_get, List.range_succ, List.map_append]
    have e' : ¬ q = itf f (j + 1) s := fun h => e h.symm
    simp [e']
theorem grpB_bad {m : Dfa} {w : List UInt8} {p : Int} (h : ¬ wordErr m.k w = 0 ∨ p < 2) : grpB m w p = false := by
  unfold grpB
  rcases h with h | h
  · simp [h]
  · have : ¬ 2 ≤ p := by omega
    simp [this]
theorem grpB_yes {m : Dfa} {w : List UInt8} {p : Int} (h : wordErr m.k w = 0) (hp : 2 ≤ p) {s : Nat} (hs : s < (leastF m).next.length) (e : (perF (fun t => goW (leastF m) t (lts w)) (leastF m).next.length s : Int) = p) : grpB m w p = true := by
  unfold grpB
  simp only [h, hp, decide_true, Bool.true_and]
  exact List.any_eq_true.2 ⟨s, by simpa using hs, by simpa using e⟩
theorem grpB_no {m : Dfa} {w : List UInt8} {p : Int} (e : ∀ s, s < (leastF m).next.length → (perF (fun t => goW (leastF m) t (lts w)) (leastF m).next.length s : Int) ≠ p) : grpB m w p = false := by
  have : ((List.range (leastF m).next.length).any fun s => decide ((perF (fun t => goW (leastF m) t (lts w)) (leastF m).next.length s : Int) = p)) = false := by
    rw [List.any_eq_false]
    intro s hs
    simpa using e s (by simpa using hs)
  unfold grpB
  rw [this]; simp

theorem w_refIsGroup (m : Dfa) (hm : m.ok) (w : List UInt8) (hw : w.length ≤ 4611686018427387904) (p : Int) : Pure Try.prog 47 [m.av, .str w, .int .i64 p] (.bool (grpB m w p)) := by
  refine pure_of (acalls_of Try.func47 rfl Try.call47 (by kernel_rfl) (by show _ ≤ (59 : Nat); simp) ?_)
  have c1 := w_refCheck m hm
  have c2 := w_refWord m.k hm.k4 w hw
  have c3 := w_refLeast m hm.wf
  have hW := (least_canon hm.wf).wf
  have hk := least_k hm.wf
  have hn := least_n hm.wf
  have hn64 := hm.n64
  have hgb := @grpB_bad m w p
  have hgy := @grpB_yes m w p
  have hgn := @grpB_no m w p
  obtain ⟨M, hM⟩ : ∃ M, M = leastF m := ⟨_, rfl⟩
  rw [← hM] at c3 hW hk hn hgy hgn
  have c4 := fun s hs hg => w_refFrom M hW s hs w hw hg
  have hn1 := hW.n1
  simp only [Dfa.av] at c1 c3 c4 ⊢
  simp
  intro b3 hb3
  simp
  refine c1.use ?_
  simp
  refine c2.use ?_
  by_cases he : wordErr m.k w = 0
  · by_cases hp : p < 2
    · simp [he, hp]
      exact finA_drop (by rw [hgb (.inr hp)])
    · obtain ⟨hg, _⟩ := not_bad he
      have hg' : ∀ b ∈ w, badB M.k b = false := by rw [hk]; exact hg
      have hgy2 := fun s hs e => hgy he (by omega) (s := s) hs e
      obtain ⟨f, hf⟩ : ∃ f : Nat → Nat, f = fun t => goW M t (lts w) := ⟨_, rfl⟩
      rw [← hf] at hgy2 hgn
      have hfl : ∀ x, x < M.next.length → f x < M.next.length := fun x hx => by rw [hf]; exact goW_lt hW _ x hx (lts_ok hg')
      have hfv : ∀ x, goW M x (lts w) = f x := fun x => by rw [hf]
      simp [he, hp]
      refine c3.use ?_
      simp [nrowsA]
      intro b7 hb7
      simp at hb7
      simp [hb7]
      refine awp_loop_g (γ := Nat) (fun s t h => (s ≤ M.next.length) ∧ (∀ i, i < s → (perF f M.next.length i : Int) ≠ p) ∧ (∀ off, cellsAt h b7 off = some (([.int .i64 (M.k : Int), .sl M.next.length (M.next.map natsA), boolsA M.good] : List AV).drop off)) ∧ t 1 = .str w ∧ t 2 = .int .i64 p ∧ t 7 = .ptr b7 0 ∧ t 8 = .int .i64 s) (fun s => M.next.length - s) (0) (turnA_self (by simp [hb7])) ?_
      rintro s t h ⟨hs, hb, hc7, h1, h2, h7, h8⟩
      by_cases hlt : s < M.next.length
      · have hws : IntKind.i64.wrap ((s : Int) + 1) = (s : Int) + 1 := wrap_i64 (by omega) (by omega)
        simp [h1, h2, h7, h8, hc7, hlt]
        refine ⟨by omega, ?_⟩
        intro bs hbs
        have x7 := ne_fresh (hc7 0) hbs
        simp [h1, h2, h7, h8]
        have hz : List.replicate M.next.length (AV.bool false) = (seenF f M.next.length s 0).map .bool := by rw [seenF_zero]; simp
        rw [hz]
        clear hz
        refine awp_loop_g (γ := Nat) (fun j t h => (Seen f M.next.length s j) ∧ (∀ off, cellsAt h b7 off = some (([.int .i64 (M.k : Int), .sl M.next.length (M.next.map natsA), boolsA M.good] : List AV).drop off)) ∧ (∀ off, cellsAt h bs off = some (((seenF f M.next.length s j).map AV.bool).drop off)) ∧ t 1 = .str w ∧ t 2 = .int .i64 p ∧ t 7 = .ptr b7 0 ∧ t 8 = .int .i64 s ∧ t 9 = .osl bs 0 M.next.length 1 ∧ t 10 = .int .i64 (itf f j s : Nat) ∧ t 11 = .int .i64 j) (fun j => M.next.length - j) (0) (turnA_self (by simp [h1, h2, h7, h8, itf, x7, hc7]; exact ⟨fun i hi => by omega, by simp⟩)) ?_
        rintro j t h ⟨hv, hc7, hcs, h1, h2, h7, h8, h9, h10, h11⟩
        have hjn := hv.le hfl hlt
        have hit := itf_lt hfl hlt j
        have hwj : IntKind.i64.wrap ((j : Int) + 1) = (j : Int) + 1 := wrap_i64 (by omega) (by omega)
        have hc70 := hc7 0
        simp [h1, h2, h7, h8, h9, h10, h11, hc7]
        refine (c4 _ hit hg').use ?_
        rw [hfv]
        have hv1 : f (itf f j s) = itf f (j + 1) s := rfl
        rw [hv1]
        have hit2 := itf_lt hfl hlt (j + 1)
        have hsg : ∀ hv, (seenF f M.next.length s j)[itf f (j + 1) s]'hv = decide (itf f (j + 1) s ∈ (List.range j).map fun i => itf f (i + 1) s) := fun hv => seenF_get _ _ _ _ _ hv
        have hss := seenF_succ f M.next.length s j
        obtain ⟨v, hvv⟩ : ∃ v, v = itf f (j + 1) s := ⟨_, rfl⟩
        rw [← hvv] at hit2 hsg hss ⊢
        obtain ⟨sn, hsn⟩ : ∃ sn, sn = seenF f M.next.length s j := ⟨_, rfl⟩
        have hsnl : sn.length = M.next.length := by rw [hsn]; simp
        rw [← hsn] at hcs hsg hss
        by_cases hin : v ∈ (List.range j).map fun i => itf f (i + 1) s
        · have hsg2 : ∀ hv, sn[v]'hv = true := fun hv => by rw [hsg]; simpa using hin
          have hper : perF f M.next.length s = 0 := by
            obtain ⟨i, hi, e⟩ := List.mem_map.1 hin
            exact perF_no fun d _ => hv.again (by simpa using hi) (by rw [e, hvv]) d
          simp [h1, h2, h7, h8, h9, h10, h11, hcs, hit2, hsnl, hsg2]
          refine turnA_self ⟨s + 1, by omega, by omega, fun i hi => ?_, hc7, by simp [h1, h2, h7, h8, h9, h10, h11, hws]⟩
          by_cases h : i = s
          · subst h; rw [hper]; omega
          · exact hb i (by omega)
        · have hsg2 : ∀ hv, sn[v]'hv = false := fun hv => by rw [hsg]; simpa using hin
          have hnv : ∀ i, i < j → itf f (i + 1) s ≠ v := fun i hi e => hin (List.mem_map.2 ⟨i, by simpa using hi, e⟩)
          by_cases hvs : v = s
          · have hsg3 : ∀ hv, sn[s]'hv = false := by rw [← hvs]; exact hsg2
            have hper : perF f M.next.length s = j + 1 := perF_hit hjn (by rw [← hvv, hvs]) hv.off
            by_cases hjp : (j : Int) + 1 = p
            · have hwp : IntKind.i64.wrap p = p := by rw [← hjp]; exact hwj
              simp [h1, h2, h7, h8, h9, h10, h11, hcs, hit2, hsnl, hsg3, hvs, hwj, hjp, hlt, hwp]
              exact ⟨by omega, finA_drop (by rw [hgy2 s hlt (by rw [hper]; omega)])⟩
            · simp [h1, h2, h7, h8, h9, h10, h11, hcs, hit2, hsnl, hsg3, hvs, hwj, hjp, hlt]
              refine ⟨by omega, turnA_self ⟨s + 1, by omega, by omega, fun i hi => ?_, ?_, by simp [h1, h2, h7, h8, h9, h10, h11, hws]⟩⟩
              · by_cases h : i = s
                · subst h; rw [hper]; omega
                · exact hb i (by omega)
              · intro off; simp [x7, hc7]
          · have hvsI : ¬ (v : Int) = s := by omega
            simp [h1, h2, h7, h8, h9, h10, h11, hcs, hit2, hsnl, hsg2, hvs, hvsI, hwj]
            refine ⟨by omega, turnA_self ⟨j + 1, by omega, hv.next (by rw [← hvv]; exact hvs) (by rw [← hvv]; exact hnv), ?_, ?_, by simp [h1, h2, h7, h8, h9, h10, h11, hvv]⟩⟩
            · intro off; simp [x7, hc7]
            · intro off; simp [hss, List.map_set]
      · obtain rfl : s = M.next.length := by omega
        simp [h1, h2, h7, h8, hc7]
        exact finA_drop (by rw [hgn hb])
  · have he2 : ¬ (wordErr m.k w : Int) = 0 := he
    simp [he2]
    exact finA_drop (by rw [hgb (.inl he)])
end Go.Proofs
