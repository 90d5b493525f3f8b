/-
  Flow: ways that are lent; rows cut short.
-/
import Derived.Test.YtpnikgfpcgaboaaFlT7
import Derived.Test.YtpnikgfpcgaboaaFlW8
set_option linter.unusedSimpArgs false
set_option linter.unusedVariables false
set_option linter.unusedSectionVars false
namespace Go.AH
open Go
theorem AWP.frz_slot {P : Program} {ro : Option Nat} {N : Nat} {c : Code} {Q : Exit → AF → AHeap → Prop} {t : AF} {h : AHeap} (i : Nat) (a : AV) (h' : AHeap) (k : Nat) (d : Drop h h') (e : frzF k h h' (t i) = a) (q : AWP P ro N c Q (t.put i a) h') : AWP P ro N c Q t h := by
  refine AWP.turn (turnA_frz k h' (t.put i a) d (fun j => ?_) q)
  by_cases hj : j = i
  · subst hj
    exact .inr (by rw [e]; simp [AF.put])
  · exact .inl (by simp [AF.put, hj])
end Go.AH
namespace Go.Proofs
open Go Go.AH
set_option maxRecDepth 10000
set_option maxHeartbeats 4000000

theorem w_ApartO (P : Nat) (l : List RArc) (O : ArcsOk P l fun _ => 0) (s T : Nat) (hs2 : s < P) (ht2 : T < P) (hst : s ≠ T) (h : AHeap) : ACalls Try.prog 27 [netV P l, .int .i64 s, .int .i64 T] h fun r h' =>
    ∃ (o : Option Nat) (ws : List (List Nat)) (out : List Nat), r = .tup [ownV o ws.length 1, natL out, .int .i64 0] ∧ h' = h.updO o (waysC ws) ∧ FreshO h o ∧ (o = none ↔ ws = []) ∧ ApartIs P l s T ws out := by
  have := ACalls.frame (w_Apart P l O s T hs2 ht2 hst) (h2 := h) Disj.empty
  rw [AHeap.empty_un] at this
  refine ACalls.mono this ?_
  rintro r h' ⟨h1, rfl, D, o, ws, out, rfl, rfl, h2, F⟩
  obtain ⟨e1, e2⟩ := empty_updO_un D
  exact ⟨o, ws, out, rfl, e1, e2, h2, F⟩
/-- Rows that stand in a block. -/
def RowsAre (rows : List AV) (ws : List (List Int)) : Prop := rows.length = ws.length ∧ ∀ i (h : i < ws.length), ∃ a, rows.drop i = a :: rows.drop (i + 1) ∧ RowIs a ws[i]
def rowsV (rows : List AV) : AV := if rows = [] then .nilsl else .sl rows.length rows
theorem RowIs.frozen {a : AV} {w : List Int} (h : RowIs a w) : a.frozen = true := by
  rcases h with ⟨rfl, _⟩ | rfl
  · rfl
  · simp only [AV.frozen]
    exact frozens_iff.2 fun x hx => by obtain ⟨y, _, rfl⟩ := List.mem_map.1 hx; rfl
theorem RowsAre.frozen {rows : List AV} {ws : List (List Int)} (h : RowsAre rows ws) : ∀ x ∈ rows, x.frozen = true := fun x hx => by
  obtain ⟨i, hi, rfl⟩ := List.getElem_of_mem hx
  obtain ⟨a, e, r⟩ := h.2 i (by rw [← h.1]; exact hi)
  rw [List.drop_eq_getElem_cons hi] at e
  have : rows[i] = a := (List.cons.inj e).1
  rw [this]; exact r.frozen
theorem RowsAre.is {rows : List AV} {ws : List (List Int)} (h : RowsAre rows ws) : RowsIs (rowsV rows) rows ws where
  one := by unfold rowsV; split <;> rfl
  fit := by unfold rowsV; split <;> rfl
  cells := by unfold rowsV; split <;> rfl
  len := fun g => by
    unfold rowsV
    split
    · next e => have := h.1; rw [e] at this; simp at this; rw [← this]; simp
    · rw [h.1]; simp
  sl := fun i hi => by
    unfold rowsV
    rw [if_neg (fun e => by have := h.1; rw [e] at this; simp at this; omega), h.1]
  row := h.2
theorem natC_intC (w : List Nat) : natC w = intC (w.map fun x : Nat => (x : Int)) := by simp [natC, intC, Function.comp_def]
theorem rowsAre_ways (ws : List (List Nat)) : RowsAre (waysC ws) (ws.map fun w => w.map fun x : Nat => (x : Int)) := by
  refine ⟨by simp [waysC], fun i hi => ?_⟩
  have hi' : i < ws.length := by simpa using hi
  refine ⟨.sl ws[i].length (natC ws[i]), drop_of_get (by simp [waysC, hi']), .inr ?_⟩
  simp [natC_intC]
theorem RowsAre.snoc {rows : List AV} {ws : List (List Int)} {a : AV} {w : List Int} (h : RowsAre rows ws) (r : RowIs a w) : RowsAre (rows ++ [a]) (ws ++ [w]) := by
  refine ⟨by simp [h.1], fun i hi => ?_⟩
  by_cases e : i < ws.length
  · obtain ⟨b, e1, e2⟩ := h.2 i e
    have hr : i < rows.length := by rw [h.1]; exact e
    rw [List.drop_eq_getElem_cons hr] at e1
    refine ⟨b, drop_of_get ?_, by simpa [List.getElem_append_left e] using e2⟩
    rw [List.getElem?_append_left hr, List.getElem?_eq_getElem hr, (List.cons.inj e1).1]
  · have hi2 : i = ws.length := by simp at hi; omega
    subst hi2
    refine ⟨a, drop_of_get ?_, by simpa using r⟩
    rw [← h.1]; simp
theorem RowsAre.set0 {rows : List AV} {ws : List (List Int)} {a : AV} {w : List Int} (h : RowsAre rows ws) (r : RowIs a w) (hn : ws ≠ []) : RowsAre (rows.set 0 a) (ws.set 0 w) := by
  refine ⟨by simp [h.1], fun i hi => ?_⟩
  have hi' : i < ws.length := by simpa using hi
  have hr : i < rows.length := by rw [h.1]; exact hi'
  obtain ⟨b, e1, e2⟩ := h.2 i hi'
  rw [List.drop_eq_getElem_cons hr] at e1
  by_cases e : i = 0
  · subst e
    refine ⟨a, drop_of_get ?_, by simpa using r⟩
    simp [hr]
  · refine ⟨b, drop_of_get ?_, ?_⟩
    · rw [List.getElem?_set_ne (fun q => e q.symm), List.getElem?_eq_getElem hr, (List.cons.inj e1).1]
    · rw [List.getElem_set_ne (fun q => e q.symm)]; exact e2
theorem rowIs_intL (w : List Int) : RowIs (intL w) w := by
  unfold intL
  split
  · next e => exact .inl ⟨rfl, e⟩
  · exact .inr rfl
theorem rowsAre_intL (ws : List (List Int)) : RowsAre (ws.map intL) ws := ⟨by simp, fun i hi => ⟨intL ws[i], drop_of_get (by simp [hi]), rowIs_intL _⟩⟩
theorem frz_rows {rows : List AV} {ws : List (List Int)} {o : Option Nat} {H h' : AHeap} (h : RowsAre rows ws) (hn : o = none → rows = []) (hs : ∀ b, o = some b → rows ≠ [] ∧ H b = some (.cells rows) ∧ Fresh h' b) : frzF 2 H h' (ownV o ws.length 1) = rowsV rows := by
  cases o with
  | none => rw [hn rfl]; rfl
  | some b =>
    obtain ⟨h1, h2, h3⟩ := hs b rfl
    rw [ownV_some, frz_osl h3, cellsAt_eq h2]
    have ht : List.take ws.length rows = rows := List.take_of_length_le (by rw [h.1]; exact Nat.le_refl _)
    simp [h.1]
    rw [map_frozen h.frozen, ht]
    unfold rowsV
    rw [if_neg h1, h.1]
theorem lendW {f : FuncId} {r : AV} {A B C : AV} {rows : List AV} {ws : List (List Int)} {o : Option Nat} {H : AHeap} (hr : r.bare1 = true) (fA : A.frozen = true) (fB : B.frozen = true) (fC : C.frozen = true) (h : RowsAre rows ws) (hn : o = none → rows = []) (hs : ∀ b, o = some b → rows ≠ [] ∧ H b = some (.cells rows))
    (c : Pure Try.prog f [A, B, C, rowsV rows] r) : ACalls Try.prog f [A, B, C, ownV o ws.length 1] H fun r' h' => r' = r ∧ h' = H := by
  refine Pure.lend (k := 2) hr ?_ ⟨rfl, rfl⟩
  have e : ([A, B, C, ownV o ws.length 1] : List AV).map (frzF 2 H AHeap.empty) = [A, B, C, rowsV rows] := by
    simp only [List.map_cons, List.map_nil]
    rw [frz_rows (h' := AHeap.empty) h hn fun b e => ⟨(hs b e).1, (hs b e).2, by simp⟩, frz_frozen _ _ fA, frz_frozen _ _ fB, frz_frozen _ _ fC]
  rw [e]
  exact c
theorem l_raw (a : AV) (w : List Int) (ha : RowIs a w) (hw : w.length ≤ 18000000000000) : Pure Try.prog 32 [a, .int .i64 8] (intL (w.take 8)) := by
  refine pure_of (acalls_of Try.func32 rfl Try.call32 (by kernel_rfl) (by show _ ≤ (14 : Nat); simp) ?_)
  rcases ha with ⟨rfl, rfl⟩ | rfl
  · simp
    exact finA_drop rfl
  · obtain ⟨m, hm⟩ : ∃ m, m = min w.length 8 := ⟨_, rfl⟩
    have hif : (if 8 < (w.length : Int) then (8 : Int) else (w.length : Int)) = (m : Int) := by
      rcases Nat.le_total w.length 8 with h | h
      · have e : m = w.length := by rw [hm, Nat.min_eq_left h]
        rw [if_neg (by omega), e]
      · have e : m = 8 := by rw [hm, Nat.min_eq_right h]
        rw [e]
        split <;> omega
    have hmw : m ≤ w.length := by rw [hm]; exact Nat.min_le_left _ _
    have hm0 : (0 : Int) ≤ (m : Int) := by omega
    have hmwI : (m : Int) ≤ (w.length : Int) := by omega
    have htk : w.take 8 = w.take m := by
      rw [hm]
      rcases Nat.le_total w.length 8 with h | h
      · rw [Nat.min_eq_left h, List.take_of_length_le h, List.take_of_length_le (Nat.le_refl _)]
      · rw [Nat.min_eq_right h]
    simp [hif, hm0, hmwI, hmw]
    refine ⟨fun h0 => ?_, fun h0 => ⟨by omega, fun b hb => ?_⟩⟩
    · refine finA_drop ?_
      rw [htk, show m = 0 from by omega]; rfl
    · simp
      have hne : ¬ w.take m = [] := fun q => by
        have e : (w.take m).length = 0 := by rw [q]; rfl
        rw [List.length_take, Nat.min_eq_left hmw] at e
        exact h0 e
      refine finA_all 2 ?_
      rw [frz_osl (by simp), htk]
      unfold intL
      rw [if_neg hne]
      have hfz : ∀ x ∈ intC w, x.frozen = true := fun x hx => by obtain ⟨y, _, rfl⟩ := List.mem_map.1 hx; rfl
      have hml : (w.take m).length = m := by simp; omega
      have hic : intC (w.take m) = (intC w).take m := by simp [intC, List.map_take]
      simp [hml, hic, hmw]
      rw [map_frozen hfz]
      simp [List.take_take]
end Go.Proofs
