/-
  Walks: the maps of a machine's states, and the size of the monoid.
-/
import Derived.Test.YtobhipohnjmnhaaWdM0
import Derived.Test.YtobhipohnjmnhaaV5
set_option linter.unusedSimpArgs false
set_option linter.unusedVariables false
set_option linter.unusedSectionVars false
namespace Go.Proofs
open Go Go.AH
set_option maxRecDepth 10000
set_option maxHeartbeats 4000000

theorem idS_len (n : Nat) : (idS n).length = n := by simp [idS]
theorem idS_lt (n : Nat) (hn : n ≤ 128) : ∀ s ∈ idS n, s.toNat < n := by
  intro s hs
  simp only [idS, List.mem_map, List.mem_range] at hs
  obtain ⟨i, hi, rfl⟩ := hs
  rw [UInt8.toNat_ofNat']
  omega
theorem behind_lt (m : Dfa) (hm : m.wf) (hn : m.next.length ≤ 128) (x : List UInt8) (hx : ∀ s ∈ x, s.toNat < m.next.length) (i : Nat) (hi : i < m.k) : ∀ s ∈ behind m x i, s.toNat < m.next.length := by
  intro s hs
  simp only [behind, List.mem_map] at hs
  obtain ⟨y, hy, rfl⟩ := hs
  have h1 := hx y hy
  have hrl : m.next[y.toNat].length = m.k := hm.rl _ (List.getElem_mem h1)
  have hlt := hm.lt _ (List.getElem_mem h1) _ (List.getElem_mem (show i < m.next[y.toNat].length by omega))
  have e : (m.next.getD y.toNat []).getD i 0 = m.next[y.toNat][i] := by simp [h1, hrl, hi]
  rw [e, UInt8.toNat_ofNat']
  omega
/-- The maps, and where letters lead from them; none: there are too many. -/
def monF (m : Dfa) : Option (List (List UInt8) × List (List Nat)) := rIter (behind m) (5000 : Nat) m.k (idS m.next.length) (5000 + 1)
/-- What monoid answers. -/
def monA (m : Dfa) : AV := match monF m with | some st => .tup [strsA st.1, strsA (classesF (rowsM m.k st.2)), .bool true] | none => .tup [.nilsl, .nilsl, .bool false]

theorem w_monoid (m : Dfa) (hm : m.wf) (hn : m.next.length ≤ 128) : Pure Try.prog 85 [m.av] (monA m) := by
  refine pure_of (acalls_of Try.func85 rfl Try.call85 (by kernel_rfl) (by show _ ≤ (35 : Nat); simp) ?_)
  have c1 := w_identity m.next.length (by omega)
  simp [Dfa.av]
  intro b1 hb1
  simp
  intro b3 hb3
  simp at hb3
  simp [hb3]
  refine awp_draw_text (by kernel_rfl) [12] [(.fn (.func 127) [] [], [.int .i64 (m.next.length : Int)], .str (idS m.next.length))] (by kernel_rfl) (by kernel_rfl) (by simp; exact PureV.of c1) ?_
  obtain ⟨HB, hHB⟩ : ∃ HB, HB = (AHeap.empty.upd b1 (.cells [.int .i64 m.k, .sl m.next.length (m.next.map natsA), boolsA m.good])).upd b3 (.cells [.nilsl]) := ⟨_, rfl⟩
  have hB1 : HB b1 = some (.cells [.int .i64 m.k, nrowsA m.next, boolsA m.good]) := by rw [hHB]; simp [hb3, nrowsA]
  have hmost := fun a st => rIter_most (behind m) 5000 (by omega) m.k (idS m.next.length) a st
  obtain ⟨F, F1, F2, F3, F4, F5⟩ := rIter_all (behind m) (5000 : Nat) m.k (idS m.next.length) 5000 hmost
  have hinv : ∀ x i, (∀ s ∈ x, s.toNat < m.next.length) ∧ x.length = m.next.length → i < m.k → (∀ s ∈ behind m x i, s.toNat < m.next.length) ∧ (behind m x i).length = m.next.length := fun x i hx hi => ⟨behind_lt m hm hn x hx.1 i hi, by simp [behind, hx.2]⟩
  have c2 := w_reachedS (idS m.next.length) m.k hm.k4 hm.k1 (5000 : Nat) (.fn (.func 128) [] [.ptr b1 0]) (behind m) (fun x => (∀ s ∈ x, s.toNat < m.next.length) ∧ x.length = m.next.length) ⟨idS_lt _ hn, idS_len _⟩ hinv HB
    (fun x i hx hi => by rw [ACallV_func]; exact w_monoid1 m hm hn _ _ x hx.1 (by omega) i hi HB b1 hB1) F (by omega) F2 F3 F4
  rw [F5] at c2
  have hst := fun st (e : monF m = some st) => rows_wf (behind m) (5000 : Nat) m.k hm.k1 hm.k4 (idS m.next.length) 5000 (by omega) hmost st e
  have hmF : rIter (behind m) (5000 : Nat) m.k (idS m.next.length) (5000 + 1) = monF m := rfl
  rw [hmF] at c2
  simp [hb3, nrowsA]
  rw [← hHB]
  refine c2.use ?_
  unfold monA
  cases hmon : monF m with
  | none =>
    simp [rchA, hHB, hb3]
    exact finA_self rfl
  | some st =>
    obtain ⟨keys, rows⟩ := st
    obtain ⟨hwf, hl1, hl2⟩ := hst _ hmon
    simp only at hwf hl1 hl2
    have c3 := w_wordsN (rowsM m.k rows)
    have c4 := it_wordsG (rowsM m.k rows) hwf .nilsl
    have hMk : (rowsM m.k rows).k = m.k := rfl
    have hMn : (rowsM m.k rows).next = rows := rfl
    have hil : (wItems (rowsM m.k rows)).length = rows.length := by simp [wItems, hMn]
    rw [hMk, hMn] at c3 c4
    simp [rchA, hHB, hb3]
    refine c3.use ?_
    simp
    refine awp_iter (L := wItems (rowsM m.k rows)) (by simp) c4 (fun (g : List (Nat × List UInt8)) h => g.length ≤ rows.length ∧ ∃ o : Option Nat, (o = none → g = []) ∧ (∀ b, o = some b → Fresh AHeap.empty b ∧ ¬ b = b1 ∧ ¬ b1 = b ∧ ¬ b = b3 ∧ ¬ b3 = b) ∧
        h = ((AHeap.empty.upd b1 (.cells [.int .i64 m.k, .sl m.next.length (m.next.map natsA), boolsA m.good])).upd b3 (.cells [ownV o g.length 1])).updO o ((g.map (·.2)).map .str))
      (fun g x => g ++ [x]) (fun g => none) [] rfl ⟨by simp, none, by simp⟩ (by kernel_rfl) (by kernel_rfl) (by simp) (by intro a _; simp [itemA]) (.inl rfl) ?_ ?_ ?_
    · rintro l i g ⟨s, w⟩ h ha hgi _ ⟨hg, o, ho, hf, rfl⟩
      have hgl : g.length + 1 ≤ rows.length := by
        have h1 := (List.getElem?_eq_some_iff.1 ha).1
        have h2 : ∀ (L : List (Nat × List UInt8)) (g : List (Nat × List UInt8)), (L.foldl (fun g x => g ++ [x]) g).length = g.length + L.length := by
          intro L
          induction L with
          | nil => intro g; simp
          | cons x L ih => intro g; rw [List.foldl_cons, ih]; simp; omega
        rw [hgi, h2]; simp; omega
      rcases o with _ | b
      · obtain rfl := ho rfl
        simp [itemA, putsA, hb3]
        intro b6 hb6
        simp at hb6
        simp [hb6, hb3]
        intro b7 hb7
        simp at hb7
        simp [hb6, hb7, hb3]
        refine ⟨((AHeap.empty.upd b1 (.cells [.int .i64 m.k, .sl m.next.length (m.next.map natsA), boolsA m.good])).upd b3 (.cells [.osl b7 0 1 1])).upd b7 (.cells [.str w]), ?_, by omega, some b7, by simp [hb7]⟩
        refine Drop.both (Drop.new (Drop.refl _) ?_)
        simp [hb6]
      · have hf1 := hf b rfl
        simp [itemA, putsA, hb3, hf1]
        intro b6 hb6
        simp at hb6
        simp [hb6, hb3, hf1]
        refine ⟨by omega, ?_⟩
        intro b7 hb7
        simp at hb7
        simp [hb6, hb7, hb3, hf1]
        refine ⟨((AHeap.empty.upd b1 (.cells [.int .i64 m.k, .sl m.next.length (m.next.map natsA), boolsA m.good])).upd b3 (.cells [.osl b7 0 (g.length + 1) 1])).upd b7 (.cells (g.map (AV.str ∘ (·.2)) ++ [.str w])), ?_, hgl, some b7, by simp [hb7]⟩
        refine Drop.both (Drop.new (Drop.refl _) ?_)
        simp [hb6]
    · intro g e he; cases he
    · rintro h' ⟨hg, o, ho, hf, rfl⟩
      have hgo : (fun g : List (Nat × List UInt8) => ((fun _ => (none : Option Exit)) g).isNone) = fun _ => true := rfl
      have hr := runIt_all (wItems (rowsM m.k rows)) []
      simp only [List.nil_append] at hr
      simp only [hgo, hr] at hg ho hf ⊢
      rcases o with _ | b
      · have := ho rfl
        rw [this] at hil; simp at hil
        have := hwf.n1
        rw [hMn, ← hil] at this; simp at this
      · have hf1 := hf b rfl
        refine awp_draw_text (by kernel_rfl) [] [] (by kernel_rfl) (by kernel_rfl) (by simp) ?_
        simp [hb3, hf1]
        refine finA_all 2 ?_
        simp [hf1, strsA, classesF, hil, List.take_of_length_le, hb3]

theorem w_Monoid (m : Dfa) (hm : m.ok) : Pure Try.prog 43 [m.av] (match monF (leastF m) with | some st => .tup [.int .i64 (st.1.length : Int), .int .i64 0] | none => .tup [.int .i64 0, .int .i64 21]) := by
  refine pure_of (acalls_of Try.func43 rfl Try.call43 (by kernel_rfl) (by show _ ≤ (25 : Nat); simp) ?_)
  have c1 := w_check m hm
  have c2 := w_of m
  have c3 := w_leastP hm.wf
  have hn := least_n hm.wf
  have c4 := w_monoid (leastF m) (least_wf hm.wf) (by have := hm.n64; omega)
  simp only [Dfa.av] at c1 c2 c3 c4 ⊢
  simp
  intro b1 hb1
  simp
  refine c1.use ?_
  simp
  refine c2.use ?_
  simp
  refine c3.use ?_
  simp
  refine c4.use ?_
  unfold monA
  cases monF (leastF m) with
  | none =>
    simp
    exact finA_self rfl
  | some st =>
    simp [strsA]
    exact finA_self rfl
end Go.Proofs
