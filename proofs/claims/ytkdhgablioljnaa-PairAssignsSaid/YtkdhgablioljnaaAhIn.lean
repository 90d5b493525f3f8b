/-
  From a reading of the arguments to abstract values, and from a call of the layer to a call of the machine that changes nothing that was there.
-/
import Derived.Test.YtkdhgablioljnaaA3
import Derived.Deep.Slices
import Derived.Deep.OwnRows
import Derived.SizedLaws
set_option linter.unusedSimpArgs false
set_option linter.unusedVariables false
set_option linter.unusedSectionVars false
namespace Go.AH
open Go Go.ChangeShapes Go.WideShapes Go.Deep

/-! ### Arguments -/
section
variable {H : Type} {enc : TypeId × Value → H} {P : Program} {w : World} {base : Nat} {held : Bool}

/-- Nothing in it is longer than the statements' reach. -/
def Small (P : Program) (t : TypeId) (d : DataW H) : Prop := ∀ n ∈ d.weights P t, n ≤ reachBytes

theorem weights_all {e : TypeId} : ∀ {ds : List (DataW H)} {d : DataW H}, d ∈ ds → ∀ n ∈ d.weights P e, n ∈ DataW.weightsAll P e ds
  | d0 :: ds, d, hd, n, hn => by
    simp only [DataW.weightsAll, List.mem_append]
    rcases List.mem_cons.1 hd with rfl | h
    · exact .inl hn
    · exact .inr (weights_all h n hn)

theorem small_arg {ts : List TypeId} {ds : List (DataW H)} (h : (DataW.weightsEach P ts ds).all (· ≤ reachBytes) = true) {j : Nat} {t : TypeId} {d : DataW H} (ht : ts[j]? = some t) (hd : ds[j]? = some d) : Small P t d := fun n hn => by
  have := List.all_eq_true.1 h n (DataW.weights_mem_each ht hd n hn)
  simpa using this

theorem small_part {t : TypeId} {fs : Array Field} (hs : P.underlying t = some (.struct fs)) {ds : List (DataW H)} (h : Small P t (.agg ds)) {j : Nat} {f : Field} {d : DataW H} (hf : fs.toList[j]? = some f) (hd : ds[j]? = some d) : Small P f.type d := fun n hn => by
  refine h n ?_
  simp only [DataW.weights, hs]
  exact DataW.weights_mem_each (by rw [List.getElem?_map, hf]; rfl) hd n hn

theorem rep_row {α : Type} (A : α → AV) (Q : α → Prop) {t e : TypeId} (ht : P.underlying t = some (.slice e)) (ce : P.cellsOf e = 1) (hA : ∀ a, (A a).one = true)
    (he : ∀ (n : Nat) (u : Value) (y : DataW H × List MemPlace), DataW.trod enc P w base (fun _ => true) held n e [u] = some y → Small P e y.1 → ∃ a, Rep w AHeap.empty u (A a) ∧ Q a)
    {fuel : Nat} {v : Value} {x : DataW H × List MemPlace} (h : DataW.trod enc P w base (fun _ => true) held fuel t [v] = some x) (hs : Small P t x.1) :
    ∃ l : List α, Rep w AHeap.empty v (.sl l.length (l.map A)) ∧ l.length * P.bytesOf e ≤ reachBytes ∧ ∀ a ∈ l, Q a := by
  rcases open_slice1 ht ce h with ⟨hcs, hx⟩ | ⟨a, len, cap, m, n, V, D, Pl, hcs, hb, hl, hm, hmm, hxx, hx⟩
  · simp only [List.cons.injEq, and_true] at hcs
    subst hcs
    exact ⟨[], .sl0 _ _ _ (Nat.le_refl _), by simp, by simp⟩
  · simp only [if_true] at hmm
    subst hmm
    simp only [List.cons.injEq, and_true] at hcs
    subst hcs hxx
    have hw : ∀ y, y ∈ (List.range len).map D → Small P e y := fun y hy k hk => by
      refine hs k ?_
      simp only [DataW.weights, ht, List.mem_cons, List.mem_append]
      exact .inr (.inl (weights_all hy k hk))
    have hlen : len * P.bytesOf e ≤ reachBytes := by
      have := hs ((len + (m - len)) * P.bytesOf e) (by simp only [DataW.weights, ht, List.length_map, List.length_range]; exact List.mem_cons_self)
      exact Nat.le_trans (Nat.mul_le_mul_right _ (by omega)) this
    by_cases h0 : len = 0
    · subst h0
      exact ⟨[], .sl0 _ _ _ hl, by simp, by simp⟩
    have he' : ∀ i, i < len → ∃ a, Rep w AHeap.empty (V i) (A a) ∧ Q a := fun i hi =>
      he n (V i) (D i, Pl i) (hx i (by omega)).2 (hw _ (List.mem_map.2 ⟨i, List.mem_range.2 hi, rfl⟩))
    obtain ⟨a0, _⟩ := he' 0 (by omega)
    haveI : Inhabited α := ⟨a0⟩
    obtain ⟨f, hf⟩ := choose_lt he'
    obtain ⟨b, off, spot⟩ := a
    have c0 := (hx 0 (by omega)).1
    have hspot : spot = none := by simpa [Addr.add] using World.cell?_spot c0
    subst hspot
    have hcell : ∀ i, i < len → w.cell? ⟨b, off + i, none⟩ = some (V i) := fun i hi => by
      have := (hx i (by omega)).1
      rwa [add_plain] at this
    refine ⟨(List.range len).map f, ?_, by simpa using hlen, ?_⟩
    · have r : Rep w AHeap.empty (.slice (some ⟨b, off, none⟩) len m) (.sl len (((List.range len).map f).map A)) := by
        refine .sl hl rfl (World.block_lt_of_cell? _ _ c0) (fun i hi => hcell i (by simpa using hi)) ?_ ?_
        · intro y hy
          obtain ⟨z, _, rfl⟩ := List.mem_map.1 hy
          exact hA z
        · intro i hi
          have hi' : i < len := by simpa using hi
          simp only [List.getElem_map, List.getElem_range]
          exact (hf i hi').1
      simpa using r
    · intro y hy
      obtain ⟨i, hi, rfl⟩ := List.mem_map.1 hy
      exact (hf i (List.mem_range.1 hi)).2

theorem rep_int {t : TypeId} {k : IntKind} (ht : P.underlying t = some (.int k)) {n : Nat} {u : Value} {y : DataW H × List MemPlace} (h : DataW.trod enc P w base (fun _ => true) held n t [u] = some y) : ∃ a : Int, Rep w AHeap.empty u (.int k a) ∧ (Lit.int k a).wf = true := by
  obtain ⟨z, h1, h2, h3⟩ := DataW.trod_int ht h
  simp only [List.cons.injEq, and_true] at h1
  subst h1
  exact ⟨z, .int k z, h3⟩
theorem rep_bool {t : TypeId} (ht : P.underlying t = some .bool) {n : Nat} {u : Value} {y : DataW H × List MemPlace} (h : DataW.trod enc P w base (fun _ => true) held n t [u] = some y) : ∃ a : Bool, Rep w AHeap.empty u (.bool a) ∧ True := by
  obtain ⟨z, h1, h2⟩ := DataW.trod_bool ht h
  simp only [List.cons.injEq, and_true] at h1
  subst h1
  exact ⟨z, .bool z, trivial⟩
theorem rep_ints {t e : TypeId} {k : IntKind} (ht : P.underlying t = some (.slice e)) (he : P.underlying e = some (.int k)) (ce : P.cellsOf e = 1) {fuel : Nat} {v : Value} {x : DataW H × List MemPlace} (h : DataW.trod enc P w base (fun _ => true) held fuel t [v] = some x) (hs : Small P t x.1) :
    ∃ l : List Int, Rep w AHeap.empty v (.sl l.length (l.map (.int k))) ∧ l.length * P.bytesOf e ≤ reachBytes ∧ ∀ a ∈ l, (Lit.int k a).wf = true :=
  rep_row (AV.int k) (fun a => (Lit.int k a).wf = true) ht ce (fun _ => rfl) (fun _ _ _ h _ => rep_int he h) h hs
theorem rep_bools {t e : TypeId} (ht : P.underlying t = some (.slice e)) (he : P.underlying e = some .bool) (ce : P.cellsOf e = 1) {fuel : Nat} {v : Value} {x : DataW H × List MemPlace} (h : DataW.trod enc P w base (fun _ => true) held fuel t [v] = some x) (hs : Small P t x.1) :
    ∃ l : List Bool, Rep w AHeap.empty v (.sl l.length (l.map .bool)) ∧ l.length * P.bytesOf e ≤ reachBytes ∧ ∀ a ∈ l, True :=
  rep_row AV.bool (fun _ => True) ht ce (fun _ => rfl) (fun _ _ _ h _ => rep_bool he h) h hs
theorem rep_rows {t e q : TypeId} {k : IntKind} (ht : P.underlying t = some (.slice e)) (he : P.underlying e = some (.slice q)) (hq : P.underlying q = some (.int k)) (ce : P.cellsOf e = 1) (cq : P.cellsOf q = 1) {fuel : Nat} {v : Value} {x : DataW H × List MemPlace}
    (h : DataW.trod enc P w base (fun _ => true) held fuel t [v] = some x) (hs : Small P t x.1) :
    ∃ l : List (List Int), Rep w AHeap.empty v (.sl l.length (l.map fun r => .sl r.length (r.map (.int k)))) ∧ l.length * P.bytesOf e ≤ reachBytes ∧ ∀ r ∈ l, r.length * P.bytesOf q ≤ reachBytes ∧ ∀ a ∈ r, (Lit.int k a).wf = true :=
  rep_row (fun r : List Int => AV.sl r.length (r.map (.int k))) (fun r => r.length * P.bytesOf q ≤ reachBytes ∧ ∀ a ∈ r, (Lit.int k a).wf = true) ht ce (fun _ => rfl)
    (fun _ _ _ h s => rep_ints he hq cq h s) h hs
end

/-! ### The call -/
theorem empty_un : AHeap.empty.un AHeap.empty = AHeap.empty := by funext b; rfl
theorem calls_of {P : Program} {f : FuncId} {as : List AV} {r : AV} (c : AH.Pure P f as r) (W : World) {vs : List Value} (hr : RepL W AHeap.empty vs as) :
    Calls P f vs.toArray W fun e W' => ∃ v, e = .returned v ∧ Rep W' AHeap.empty v r ∧ W.Since W.heap.size W' := by
  have h := (c AHeap.empty).2 AHeap.empty W vs (fun b => .inl rfl) (fun b c e => by cases e) (by rw [empty_un]; exact hr)
  refine (callsIn_wide.1 h).mono ?_
  rintro e W' ⟨v, r', h', rfl, ⟨rfl, rfl⟩, _, _, h4, h5⟩
  rw [empty_un] at h4
  have hx := h5.ext
  exact ⟨v, rfl, h4, hx.os, hx.tape, hx.output, hx.size, fun k hk => (hx.keep k hk rfl).2⟩

/-! ### A call ahead of which blocks are given up -/
theorem SubH.one {h : AHeap} {b : Nat} {cs : List AV} (k : Nat) (cs' : List AV) (e : h b = some (.cells cs)) (e2 : cs.map (frzF k h (AHeap.empty.upd b (.cells cs'))) = cs') : SubH k h (AHeap.empty.upd b (.cells cs')) := fun i => by
  by_cases hi : i = b
  · subst hi
    refine .inr (.inr ⟨cs, e, ?_⟩)
    rw [e2]; simp [AHeap.upd]
  · exact .inl (by simp [AHeap.upd, hi, AHeap.empty])
theorem ACalls.turn {P : Program} {f : FuncId} {args : List AV} {h : AHeap} {R : AV → AHeap → Prop} (k : Nat) (h' : AHeap) (s : SubH k h h') (c : ACalls P f (args.map (frzF k h h')) h' R) : ACalls P f args h R := by
  refine ⟨c.1, fun hf w vs D Rl rs => ?_⟩
  have rs' : RepL w (h'.un hf) vs (args.map (frzF k h h')) := RepL.conv rs _ fun v a r => frz_sound Rl D (fun b => s.none) k v a r
  refine CallsIn.mono (c.2 hf w vs (s.disj D) (s.rel Rl D) rs') ?_
  rintro e w' ⟨v, r, h'', e1, e2, e3, e4, e5, e6⟩
  exact ⟨v, r, h'', e1, e2, e3, e4, e5, (s.stp D).trans e6⟩
end Go.AH
