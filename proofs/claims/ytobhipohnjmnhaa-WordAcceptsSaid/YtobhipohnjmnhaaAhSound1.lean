/-
  What an operation gives on abstract values is what it gives in the model: operations that leave memory alone.
-/
import Derived.Test.YtobhipohnjmnhaaAhPure
set_option linter.unusedSimpArgs false
set_option linter.unusedVariables false
set_option linter.unusedSectionVars false
namespace Go.AH
open Go

section
variable {P : Program} {w : World} {g h : AHeap}

theorem add_none (b off i : Nat) : Addr.add ⟨b, off, none⟩ i = ⟨b, off + i, none⟩ := by
  unfold Addr.add; split
  · next e => simp [e]
  · rfl

theorem oneCell_of {v : Value} {a : AV} (r : Rep w g v a) (ho : a.one = true) : v.oneCell' = true := by
  cases r <;> simp_all [AV.one, Value.oneCell']

theorem run_sizeOf {t : TypeId} {s : Nat} (e : szT P t = some s) : (sizeOf t).run P w = .ok s w := by
  unfold szT at e
  cases hi : P.info? t with
  | none => simp [hi] at e
  | some i => simp only [hi, Option.map_some, Option.some.injEq] at e; simp [sizeOf, typeInfo, hi, e]

theorem run_underlying' {t : TypeId} {d : TypeDesc} (e : P.underlying t = some d) : (underlying t).run P w = .ok d w := by
  simp [underlying, e]

theorem run_isAgg {t : TypeId} {a : Bool} (e : aggT P t = some a) : (isAgg t).run P w = .ok a w := by
  unfold aggT at e
  cases hi : P.underlying t with
  | none => simp [hi] at e
  | some d =>
    simp only [hi, Option.map_some, Option.some.injEq] at e
    unfold isAgg
    rw [Sem.run_bind, run_underlying' hi]
    cases d <;> simp_all

theorem run_loadCellsFrom {b off : Nat} {vs : Nat → Value} : ∀ (n i : Nat) (acc : Array Value), (∀ j, i ≤ j → j < i + n → w.cell? ⟨b, off + j, none⟩ = some (vs j)) →
    (loadCellsFrom ⟨b, off, none⟩ i n acc).run P w = .ok (acc ++ ((List.range' i n).map vs).toArray) w
  | 0, i, acc, _ => by simp [loadCellsFrom]
  | n + 1, i, acc, H => by
    have h0 := H i (Nat.le_refl _) (by omega)
    have ih := run_loadCellsFrom n (i + 1) (acc.push (vs i)) (fun j h1 h2 => H j (by omega) (by omega))
    simp only [loadCellsFrom, Sem.run_bind, run_load, add_none, h0, Result.andThen, ih]
    simp [List.range'_succ]

theorem run_loadCells {b off n : Nat} {vs : Nat → Value} (H : ∀ j, j < n → w.cell? ⟨b, off + j, none⟩ = some (vs j)) :
    (loadCells ⟨b, off, none⟩ n).run P w = .ok ((List.range n).map vs).toArray w := by
  have := run_loadCellsFrom (P := P) (w := w) (b := b) (off := off) (vs := vs) n 0 #[] (fun j _ h2 => H j (by omega))
  simpa [loadCells, List.range_eq_range'] using this

/-- Cells from an address on that stand for abstract values. -/
def Cells (w : World) (g : AHeap) (b off : Nat) (cells : List AV) : Prop :=
  (∀ x ∈ cells, x.one = true) ∧ ∃ vs : Nat → Value, (∀ i, i < cells.length → w.cell? ⟨b, off + i, none⟩ = some (vs i)) ∧ ∀ i (hi : i < cells.length), Rep w g (vs i) cells[i]

theorem Cells.drop {b off : Nat} {cells : List AV} (c : Cells w g b off cells) (k : Nat) : Cells w g b (off + k) (cells.drop k) := by
  obtain ⟨ho, vs, h1, h2⟩ := c
  refine ⟨fun x hx => ho x (List.mem_of_mem_drop hx), fun i => vs (k + i), fun i hi => ?_, fun i hi => ?_⟩
  · rw [List.length_drop] at hi
    rw [Nat.add_assoc]; exact h1 (k + i) (by omega)
  · simp only [List.getElem_drop]
    exact h2 (k + i) (by rw [List.length_drop] at hi; omega)

theorem Cells.take {b off : Nat} {cells : List AV} (c : Cells w g b off cells) (k : Nat) : Cells w g b off (cells.take k) := by
  obtain ⟨ho, vs, h1, h2⟩ := c
  refine ⟨fun x hx => ho x (List.mem_of_mem_take hx), vs, fun i hi => ?_, fun i hi => ?_⟩
  · rw [List.length_take] at hi; exact h1 i (by omega)
  · rw [List.length_take] at hi
    simp only [List.getElem_take]
    exact h2 i (by omega)

theorem Rel.cells (R : Rel w g) {b : Nat} {cs : List AV} (e : g b = some (.cells cs)) : Cells w g b 0 cs := by
  obtain ⟨vs, ty, h1, h2, h3, h4⟩ := R b _ e
  refine ⟨h3, fun i => vs.getD i undef, fun i hi => ?_, fun i hi => ?_⟩
  · have : i < vs.size := by omega
    simp [World.cell?, h1, this]
  · have : i < vs.size := by omega
    simpa [this] using h4 i hi this

theorem cells_of_fptr {v : Value} {cells : List AV} (r : Rep w g v (.fptr cells)) : ∃ b off, v = .pointer (some ⟨b, off, none⟩) ∧ g b = none ∧ b < w.heap.size ∧ Cells w g b off cells := by
  cases r with
  | fptr hb hlt hc ho hr => exact ⟨_, _, rfl, hb, hlt, ho, _, hc, hr⟩

theorem cells_of_sl {v : Value} {n : Nat} {cells : List AV} (r : Rep w g v (.sl n cells)) (hne : cells ≠ []) :
    ∃ b off c, v = .slice (some ⟨b, off, none⟩) n c ∧ n ≤ c ∧ g b = none ∧ b < w.heap.size ∧ Cells w g b off cells := by
  cases r with
  | sl0 => exact absurd rfl hne
  | sl hn hb hlt hc ho hr => exact ⟨_, _, _, rfl, hn, hb, hlt, ho, _, hc, hr⟩

theorem rep_fptr {b off : Nat} {cells : List AV} (hb : g b = none) (hlt : b < w.heap.size) (c : Cells w g b off cells) : Rep w g (.pointer (some ⟨b, off, none⟩)) (.fptr cells) := by
  obtain ⟨ho, vs, h1, h2⟩ := c
  exact .fptr hb hlt h1 ho h2

theorem rep_sl {b off n c : Nat} {cells : List AV} (hn : n ≤ c) (hb : g b = none) (hlt : b < w.heap.size) (hc : Cells w g b off cells) : Rep w g (.slice (some ⟨b, off, none⟩) n c) (.sl n cells) := by
  obtain ⟨ho, vs, h1, h2⟩ := hc
  exact .sl hn hb hlt h1 ho h2

theorem rep_agg {w : World} {g : AHeap} {vs : List Value} {cells : List AV} (h1 : vs.length = cells.length) (ho : ∀ x ∈ cells, x.one = true)
    (hr : ∀ i (hi : i < vs.length) (hj : i < cells.length), Rep w g vs[i] cells[i]) : Rep w g (.agg vs.toArray) (.agg cells) := .agg h1 ho hr

theorem run_loadVar {b off : Nat} {cells : List AV} (c : Cells w g b off cells) {t : TypeId} {r : AV} (e : loadA P t cells = some r) :
    ∃ v, (loadVar t ⟨b, off, none⟩).run P w = .ok v w ∧ Rep w g v r := by
  unfold loadA at e
  split at e
  · next a s ha hs =>
    obtain ⟨ho, vs, h1, h2⟩ := c
    cases a with
    | true =>
      simp only [loadC, if_true] at e
      split at e
      · next hle =>
        simp only [Option.some.injEq] at e
        subst e
        refine ⟨.agg ((List.range s).map vs).toArray, ?_, ?_⟩
        · simp only [loadVar, Sem.run_bind, run_isAgg ha, Result.andThen, if_true, run_sizeOf hs, run_loadCells (P := P) (w := w) (n := s) (vs := vs) (fun j hj => h1 j (by omega)), Sem.run_pure]
        · refine .agg (by simp; omega) (fun x hx => ho x (List.mem_of_mem_take hx)) (fun i hi hj => ?_)
          simp only [List.getElem_map, List.getElem_range, List.getElem_take]
          exact h2 i (by simp at hj; omega)
      · cases e
    | false =>
      simp only [loadC, Bool.false_eq_true, if_false] at e
      cases cells with
      | nil => simp at e
      | cons x xs =>
        simp only [List.head?_cons, Option.some.injEq] at e
        subst e
        refine ⟨vs 0, ?_, h2 0 (by simp)⟩
        have := h1 0 (by simp)
        simp only [Nat.add_zero] at this
        simp only [loadVar, Sem.run_bind, run_isAgg ha, Result.andThen, Bool.false_eq_true, if_false, run_load, this]
  · cases e

theorem sval_rep (v : Value) : Rep w g v (sval v) := by
  unfold sval
  split <;> first
    | exact .bool _ | exact .int _ _ | exact .str _ | exact .nilsl | exact .nilptr | exact .nilmap | exact .nilfn | exact .nilif | exact .undef _

theorem cval_rep (v : Value) : Rep w g v (cval v) := by
  unfold cval
  split
  · next cs =>
    split
    · next hall =>
      have e : cs = cs.toList.toArray := by simp
      rw [e]
      refine .agg (by simp) (fun x hx => ?_) (fun i hi hj => ?_)
      · rw [List.all_eq_true] at hall; exact hall x (by simpa using hx)
      · simp only [List.getElem_map]
        exact sval_rep _
    · exact .undef _
  · exact sval_rep _

/-- A frame and what it stands for. -/
def RepF (w : World) (g : AHeap) (tmps : Array Value) (t : AF) : Prop := ∀ i, Rep w g (tmps.getD i Go.undef) (t i)

theorem RepF.ext {w' : World} {g' : AHeap} (x : Ext w g w' g') {tmps : Array Value} {t : AF} (r : RepF w g tmps t) : RepF w' g' tmps t := fun i => (r i).ext x

theorem RepF.eval {a : Act} {t : AF} (r : RepF w g a.tmps t) (x : Operand) : Rep w g (a.eval x) (evalA t x) := by
  cases x with
  | tmp i => exact r i
  | const v => exact cval_rep v
  | global b => exact .undef _
  | func f =>
    have : Rep w g (.func (.func f) ([] : List Value).toArray ([] : List Value).toArray) (.fn (.func f) [] []) := .fn rfl rfl (fun i hi => absurd hi (Nat.not_lt_zero i)) (fun i hi => absurd hi (Nat.not_lt_zero i))
    exact this

theorem RepF.put {tmps : Array Value} {t : AF} (r : RepF w g tmps t) {d : Nat} (hd : d < tmps.size) {v : Value} {x : AV} (hv : Rep w g v x) :
    RepF w g (tmps.setIfInBounds d v) (t.put d x) := fun i => by
  by_cases hi : i = d
  · subst hi
    simpa [hd] using hv
  · rw [AF.put_ne _ _ _ _ hi]
    have := r i
    have e : (tmps.setIfInBounds d v).getD i Go.undef = tmps.getD i Go.undef := by
      simp [Array.getD_eq_getD_getElem?, Ne.symm hi]
    rwa [e]

/-! ### Inversions -/
theorem Rep.inv_bool {v : Value} {b : Bool} (r : Rep w g v (.bool b)) : v = .bool b := by cases r; rfl
theorem Rep.inv_int {v : Value} {k : IntKind} {n : Int} (r : Rep w g v (.int k n)) : v = .int k n := by cases r; rfl
theorem Rep.inv_str {v : Value} {l : List UInt8} (r : Rep w g v (.str l)) : ∃ s : ByteArray, v = .string s ∧ s.data.toList = l := by cases r; exact ⟨_, rfl, rfl⟩
theorem Rep.inv_nilsl {v : Value} (r : Rep w g v .nilsl) : v = .slice none 0 0 := by cases r; rfl
theorem Rep.inv_nilptr {v : Value} (r : Rep w g v .nilptr) : v = .pointer none := by cases r; rfl
theorem Rep.inv_ptr {v : Value} {b off : Nat} (r : Rep w g v (.ptr b off)) : v = .pointer (some ⟨b, off, none⟩) := by cases r; rfl
theorem Rep.inv_map {v : Value} {b : Nat} (r : Rep w g v (.map b)) : v = .map (some b) := by cases r; rfl
theorem Rep.inv_nilmap {v : Value} (r : Rep w g v .nilmap) : v = .map none := by cases r; rfl
theorem Rep.inv_nilfn {v : Value} (r : Rep w g v .nilfn) : v = .nilFunc := by cases r; rfl
theorem Rep.inv_nilif {v : Value} (r : Rep w g v .nilif) : v = .nilIface := by cases r; rfl
theorem Rep.inv_iface {v : Value} {t : TypeId} {a : AV} (r : Rep w g v (.iface t a)) : ∃ x, v = .iface t x ∧ Rep w g x a := by cases r with | iface hr => exact ⟨_, rfl, hr⟩
theorem Rep.inv_osl {v : Value} {b off n es : Nat} (r : Rep w g v (.osl b off n es)) : ∃ c, v = .slice (some ⟨b, off, none⟩) n c ∧ n ≤ c ∧
    ∃ (cs : Array Value) (e : TypeId) (fr : Nat × Nat), w.heap[b]? = some (Obj.cells cs e fr) ∧ off + c * es ≤ cs.size := by
  cases r with | osl hn hs => exact ⟨_, rfl, hn, hs⟩
theorem Rep.inv_sl {v : Value} {n : Nat} {cells : List AV} (r : Rep w g v (.sl n cells)) : ∃ a c, v = .slice a n c ∧ n ≤ c := by
  cases r with
  | sl0 _ _ _ hn => exact ⟨_, _, rfl, hn⟩
  | sl hn => exact ⟨_, _, rfl, hn⟩
theorem Rep.inv_agg {v : Value} {cells : List AV} (r : Rep w g v (.agg cells)) : ∃ vs : List Value, v = .agg vs.toArray ∧ vs.length = cells.length ∧ (∀ x ∈ cells, x.one = true) ∧ RepL w g vs cells := by
  cases r with | agg h1 ho hr => exact ⟨_, rfl, h1, ho, h1, hr⟩
theorem Rep.inv_tup {v : Value} {cells : List AV} (r : Rep w g v (.tup cells)) : ∃ vs : List Value, v = .tuple vs.toArray ∧ RepL w g vs cells := by
  cases r with | tup h1 hr => exact ⟨_, rfl, h1, hr⟩
theorem Rep.inv_fn {v : Value} {f : Fn} {fa ca : List AV} (r : Rep w g v (.fn f fa ca)) : ∃ first caps : List Value, v = .func f first.toArray caps.toArray ∧ RepL w g first fa ∧ RepL w g caps ca := by
  cases r with | fn h1 h2 hf hc => exact ⟨_, _, rfl, ⟨h1, hf⟩, ⟨h2, hc⟩⟩

/-- The cells of a value, as the model counts them. -/
theorem Rep.cells {v : Value} {a : AV} (r : Rep w g v a) (hf : a.fit = true) : RepL w g v.cells.toList a.cells ∧ ∀ x ∈ a.cells, x.one = true := by
  cases r with
  | undef => simp [AV.fit] at hf
  | tup => simp [AV.fit] at hf
  | agg h1 ho hr => exact ⟨⟨h1, hr⟩, ho⟩
  | bool b => exact ⟨.cons (.bool b) .nil, by simp [AV.cells, AV.one]⟩
  | int k n => exact ⟨.cons (.int k n) .nil, by simp [AV.cells, AV.one]⟩
  | str s => exact ⟨.cons (.str s) .nil, by simp [AV.cells, AV.one]⟩
  | nilsl => exact ⟨.cons .nilsl .nil, by simp [AV.cells, AV.one]⟩
  | sl0 a n c hn => exact ⟨.cons (.sl0 a n c hn) .nil, by simp [AV.cells, AV.one]⟩
  | sl hn hb hlt hc ho hr => exact ⟨.cons (.sl hn hb hlt hc ho hr) .nil, by simp [AV.cells, AV.one]⟩
  | osl hn hs => exact ⟨.cons (.osl hn hs) .nil, by simp [AV.cells, AV.one]⟩
  | nilptr => exact ⟨.cons .nilptr .nil, by simp [AV.cells, AV.one]⟩
  | ptr b off => exact ⟨.cons (.ptr b off) .nil, by simp [AV.cells, AV.one]⟩
  | fptr hb hlt hc ho hr => exact ⟨.cons (.fptr hb hlt hc ho hr) .nil, by simp [AV.cells, AV.one]⟩
  | nilmap => exact ⟨.cons .nilmap .nil, by simp [AV.cells, AV.one]⟩
  | map b => exact ⟨.cons (.map b) .nil, by simp [AV.cells, AV.one]⟩
  | fn h1 h2 h3 h4 => exact ⟨.cons (.fn h1 h2 h3 h4) .nil, by simp [AV.cells, AV.one]⟩
  | nilfn => exact ⟨.cons .nilfn .nil, by simp [AV.cells, AV.one]⟩
  | nilif => exact ⟨.cons .nilif .nil, by simp [AV.cells, AV.one]⟩
  | iface hr => exact ⟨.cons (.iface hr) .nil, by simp [AV.cells, AV.one]⟩
end
end Go.AH
