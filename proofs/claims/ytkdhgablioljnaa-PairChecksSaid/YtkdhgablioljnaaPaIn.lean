/-
  Pair: arguments as they come in.
-/
import Derived.Test.YtkdhgablioljnaaPaA
import Derived.Test.YtkdhgablioljnaaAhEnd
import Derived.Test.YtkdhgablioljnaaAhIn
import Derived.Lib.SmallJoins
set_option linter.unusedSimpArgs false
set_option linter.unusedVariables false
set_option linter.unusedSectionVars false
namespace Go.Proofs
open Go Go.AH Go.ChangeShapes Go.WideShapes Go.Deep Go.Joins Go.RowKit
set_option maxRecDepth 10000
set_option maxHeartbeats 4000000

theorem try_laidOut : laidOutB Try.prog = true := by kernel_rfl
theorem wf_i64 {n : Int} (h : (Lit.int .i64 n).wf = true) : -9223372036854775808 ≤ n ∧ n ≤ 9223372036854775807 := by
  simpa [Lit.wf, IntKind.min, IntKind.max, IntKind.signed, IntKind.bits] using h
theorem rep_int_arg {H : Type} {enc : TypeId × Value → H} {W : World} {base : Nat} {v : Value} {d : DataW H} {p : List MemPlace} (hv : Value.okWide Try.prog W .any base 3 v) (h : DataW.Trod enc Try.prog W 0 (fun _ => true) true 3 v d p) : ∃ n : Int, Rep W AHeap.empty v (.int .i64 n) ∧ (Lit.int .i64 n).wf = true := by
  obtain ⟨n, rfl, rfl, rfl, wn⟩ := open_int Try.underlying3 hv h
  exact ⟨n, .int .i64 n, wn⟩
section
variable {H : Type} {enc : TypeId × Value → H} {w : World} {base : Nat} {held : Bool}
theorem rep_edges {fuel : Nat} {v : Value} {x : DataW H × List MemPlace} (h : DataW.trod enc Try.prog w base (fun _ => true) held fuel 42 [v] = some x) (hs : Small Try.prog 42 x.1) :
    ∃ l : List Ed, Rep w AHeap.empty v (edS l) ∧ l.length * Try.prog.bytesOf 54 ≤ reachBytes := by
  have ce : Try.prog.cellsOf 54 = 2 := by kernel_rfl
  rcases open_slice Try.underlying42 h with ⟨hcs, hx⟩ | ⟨a, len, cap, m, n, D, Pl, hcs, hb, hl, hm, hmm, hxx, hx⟩
  · simp only [List.cons.injEq, and_true] at hcs
    subst hcs
    exact ⟨[], .sl0 _ _ _ (Nat.le_refl _), by simp⟩
  · simp only [if_true] at hmm
    subst hmm
    simp only [List.cons.injEq, and_true] at hcs
    subst hcs hxx
    have hlen : len * Try.prog.bytesOf 54 ≤ reachBytes := by
      have := hs ((len + (m - len)) * Try.prog.bytesOf 54) (by simp only [DataW.weights, Try.underlying42, List.length_map, List.length_range]; exact List.mem_cons_self)
      exact Nat.le_trans (Nat.mul_le_mul_right _ (by omega)) this
    by_cases h0 : len = 0
    · subst h0
      exact ⟨[], .sl0 _ _ _ hl, by simp⟩
    have he' : ∀ i, i < len → ∃ q : Ed, w.cell? (a.add (i * 2)) = some (.int .i64 q.1) ∧ w.cell? (a.add (i * 2 + 1)) = some (.int .i64 q.2) := fun i hi => by
      obtain ⟨cs', h1, h2⟩ := hx i (by omega)
      rw [ce] at h1
      obtain ⟨_, hlen', hcell⟩ := World.cells?_some h1
      obtain ⟨xs, m', _, _, _, hxl, hel⟩ := DataW.trod_array Try.underlying54 h2
      obtain ⟨y0, y1, rfl⟩ : ∃ y0 y1, xs = [y0, y1] := by
        match xs, hxl with
        | [a, b], _ => exact ⟨a, b, rfl⟩
      match cs', hlen' with
      | [v0, v1], _ =>
        have e0 := hcell 0 (by omega)
        have e1 := hcell 1 (by omega)
        rw [add_add] at e0 e1
        have c3 : Try.prog.cellsOf 3 = 1 := by kernel_rfl
        have g0 := hel 0 (by omega)
        have g1 := hel 1 (by omega)
        simp [c3] at g0 g1
        obtain ⟨z0, q0, _, _⟩ := DataW.trod_int Try.underlying3 g0
        obtain ⟨z1, q1, _, _⟩ := DataW.trod_int Try.underlying3 g1
        simp only [List.cons.injEq, and_true] at q0 q1
        subst q0 q1
        exact ⟨(z0, z1), by simpa using e0, by simpa using e1⟩
    haveI : Inhabited Ed := ⟨(0, 0)⟩
    obtain ⟨f, hf⟩ := choose_lt he'
    obtain ⟨l, hl2⟩ : ∃ l, l = (List.range len).map f := ⟨_, rfl⟩
    have hll : l.length = len := by rw [hl2]; simp
    have hli : ∀ i (hi : i < l.length), l[i] = f i := by intro i hi; simp [hl2]
    obtain ⟨b, off, spot⟩ := a
    have c0 := (hf 0 (by omega)).1
    have hspot : spot = none := by simpa [Addr.add] using World.cell?_spot c0
    subst hspot
    refine ⟨l, ?_, by rw [hll]; exact hlen⟩
    have hget : ∀ i, i < len → (edC l)[i * 2]? = some (.int .i64 (f i).1) ∧ (edC l)[i * 2 + 1]? = some (.int .i64 (f i).2) := by
      intro i hi
      have h3 := edC_at (l := l) (i := i) (x := f i) (by rw [List.getElem?_eq_getElem (by omega), hli i (by omega)])
      have g0 := congrArg (·[0]?) h3
      have g1 := congrArg (·[1]?) h3
      simp at g0 g1
      exact ⟨g0, g1⟩
    have hcase : ∀ j, j < (edC l).length → ∃ z : Int, (edC l)[j]? = some (.int .i64 z) ∧ w.cell? ⟨b, off + j, none⟩ = some (.int .i64 z) := by
      intro j hj
      rw [edC_length, hll] at hj
      obtain ⟨i, r, hr, rfl⟩ : ∃ i r, r < 2 ∧ j = i * 2 + r := ⟨j / 2, j % 2, by omega, by omega⟩
      have hi : i < len := by omega
      obtain ⟨a0, a1⟩ := hget i hi
      obtain ⟨b0, b1⟩ := hf i hi
      rw [add_plain] at b0 b1
      have : r = 0 ∨ r = 1 := by omega
      rcases this with rfl | rfl
      · exact ⟨_, a0, b0⟩
      · exact ⟨_, a1, b1⟩
    obtain ⟨Z, hZ⟩ := choose_lt hcase
    have r : Rep w AHeap.empty (.slice (some ⟨b, off, none⟩) len m) (.sl len (edC l)) := by
      refine .sl (vs := fun j => .int .i64 (Z j)) hl rfl (World.block_lt_of_cell? _ _ c0) (fun j hj => (hZ j hj).2) ?_ ?_
      · intro y hy
        obtain ⟨x, _, h⟩ := List.mem_flatMap.1 hy
        simp at h
        rcases h with rfl | rfl <;> rfl
      · intro j hj
        have := (hZ j hj).1
        rw [List.getElem?_eq_getElem hj, Option.some.injEq] at this
        rw [this]
        exact .int _ _
    unfold edS
    rw [hll]; exact r
end
theorem rep_graph {H : Type} {enc : TypeId × Value → H} {W : World} {base : Nat} {v : Value} {d : DataW H} {p : List MemPlace} (hv : Value.okWide Try.prog W .any base 44 v)
    (h : DataW.Trod enc Try.prog W 0 (fun _ => true) true 44 v d p) (hs : Small Try.prog 44 d) : ∃ (n : Int) (l : List Ed), l.length ≤ 4611686018427387904 ∧ Rep W AHeap.empty v (.agg [.int .i64 n, edS l]) := by
  obtain ⟨v0, v1, y0, y1, n, rfl, rfl, rfl, h0, h1⟩ := open_agg2 Try.underlying44 (by kernel_rfl) (by kernel_rfl) hv h
  obtain ⟨z, r0, w0⟩ := rep_int Try.underlying3 h0
  obtain ⟨l, r1, l1⟩ := rep_edges h1 (small_part Try.underlying44 hs (j := 1) rfl rfl)
  have b55 : Try.prog.bytesOf 54 = 16 := by kernel_rfl
  have hreach : reachBytes = 140737488351232 := rfl
  rw [b55] at l1
  refine ⟨z, l, by omega, ?_⟩
  exact Rep.agg (w := W) (h := AHeap.empty) (vs := [v0, v1]) (cells := [.int .i64 z, edS l]) rfl (by simp [AV.one, edS]) (fun i hi hj => by
    match i, hi with
    | 0, _ => exact r0
    | 1, _ => exact r1)
theorem rep_list_arg {H : Type} {enc : TypeId × Value → H} {W : World} {base : Nat} {v : Value} {d : DataW H} {p : List MemPlace} (hv : Value.okWide Try.prog W .any base 24 v) (h : DataW.Trod enc Try.prog W 0 (fun _ => true) true 24 v d p) (hs : Small Try.prog 24 d) : ∃ a : List Int, Rep W AHeap.empty v (intS a) ∧ a.length ≤ 4611686018427387904 := by
  have b3 : Try.prog.bytesOf 3 = 8 := by kernel_rfl
  have hreach : reachBytes = 140737488351232 := rfl
  obtain ⟨x, hx, hd⟩ : ∃ x : DataW H × List MemPlace, (∃ fuel, DataW.trod enc Try.prog W 0 (fun _ => true) true fuel 24 [v] = some x) ∧ x.1 = d := by
    obtain ⟨fuel, hf⟩ := h
    have hc : v.cells.toList = [v] := by
      cases v <;> first | rfl | (simp [Value.okWide, Cell.okWide, Cell.ok, Try.underlying24] at hv; done)
    rw [hc] at hf
    exact ⟨(d, p), ⟨fuel, hf⟩, rfl⟩
  obtain ⟨fuel, hf⟩ := hx
  obtain ⟨a, ra, la, _⟩ := rep_ints Try.underlying24 Try.underlying3 (by kernel_rfl) hf (by rw [hd]; exact hs)
  rw [b3] at la
  exact ⟨a, ra, by omega⟩
end Go.Proofs
