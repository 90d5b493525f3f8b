/-
  Texts: PaIn PbIn.
-/
import Derived.Test.YtkdhgablioljnaaP1
import Derived.Test.YtkdhgablioljnaaAhEnd
import Derived.Test.YtkdhgablioljnaaAhIn
import Derived.Lib.SmallJoins
import Derived.Test.YtkdhgablioljnaaP3
set_option linter.unusedSimpArgs false
set_option linter.unusedVariables false
set_option linter.unusedSectionVars false
section
/-
  Pair: arguments as they come in.
-/
namespace Go.Proofs
open Go Go.AH Go.ChangeShapes Go.WideShapes Go.Deep Go.Joins Go.RowKit
set_option maxRecDepth 10000
set_option maxHeartbeats 4000000

theorem try_laidOut : laidOutB Try.prog = true := by kernel_rfl
theorem wf_i64 {n : Int} (h : (Lit.int .i64 n).wf = true) : -9223372036854775808 ≤ n ∧ n ≤ 9223372036854775807 := by
  simpa [Lit.wf, IntKind.min, IntKind.max, IntKind.signed, IntKind.bits] using h
theorem rep_int_arg {H : Type} {enc : TypeId × Value → H} {W : World} {base : Nat} {v : Value} {d : DataW H} {p : List MemPlace} (hv : Value.okWide Try.prog W .any base 3 v) (h : DataW.Trod enc Try.prog W 0 (fun _ => true) true 3 v d p) : ∃ n : Int, Rep W AHeap.empty v (.int .i64 n) ∧ (Lit.int .i64 n).wf = true := by
  obtain ⟨n, rfl, rfl, rfl, wn⟩ := open_int Try.underlying3 hv h
  exact ⟨n, .int .i64 n, wn⟩
section
variable {H : Type} {enc : TypeId × Value → H} {w : World} {base : Nat} {held : Bool}
theorem rep_edges {fuel : Nat} {v : Value} {x : DataW H × List MemPlace} (h : DataW.trod enc Try.prog w base (fun _ => true) held fuel 42 [v] = some x) (hs : Small Try.prog 42 x.1) :
    ∃ l : List Ed, Rep w AHeap.empty v (edS l) ∧ l.length * Try.prog.bytesOf 54 ≤ reachBytes := by
  have ce : Try.prog.cellsOf 54 = 2 := by kernel_rfl
  rcases open_slice Try.underlying42 h with ⟨hcs, hx⟩ | ⟨a, len, cap, m, n, D, Pl, hcs, hb, hl, hm, hmm, hxx, hx⟩
  · simp only [List.cons.injEq, and_true] at hcs
    subst hcs
    exact ⟨[], .sl0 _ _ _ (Nat.le_refl _), by simp⟩
  · simp only [if_true] at hmm
    subst hmm
    simp only [List.cons.injEq, and_true] at hcs
    subst hcs hxx
    have hlen : len * Try.prog.bytesOf 54 ≤ reachBytes := by
      have := hs ((len + (m - len)) * Try.prog.bytesOf 54) (by simp only [DataW.weights, Try.underlying42, List.length_map, List.length_range]; exact List.mem_cons_self)
      exact Nat.le_trans (Nat.mul_le_mul_right _ (by omega)) this
    by_cases h0 : len = 0
    · subst h0
      exact ⟨[], .sl0 _ _ _ hl, by simp⟩
    have he' : ∀ i, i < len → ∃ q : Ed, w.cell? (a.add (i * 2)) = some (.int .i64 q.1) ∧ w.cell? (a.add (i * 2 + 1)) = some (.int .i64 q.2) := fun i hi => by
      obtain ⟨cs', h1, h2⟩ := hx i (by omega)
      rw [ce] at h1
      obtain ⟨_, hlen', hcell⟩ := World.cells?_some h1
      obtain ⟨xs, m', _, _, _, hxl, hel⟩ := DataW.trod_array Try.underlying54 h2
      obtain ⟨y0, y1, rfl⟩ : ∃ y0 y1, xs = [y0, y1] := by
        match xs, hxl with
        | [a, b], _ => exact ⟨a, b, rfl⟩
      match cs', hlen' with
      | [v0, v1], _ =>
        have e0 := hcell 0 (by omega)
        have e1 := hcell 1 (by omega)
        rw [add_add] at e0 e1
        have c3 : Try.prog.cellsOf 3 = 1 := by kernel_rfl
        have g0 := hel 0 (by omega)
        have g1 := hel 1 (by omega)
        simp [c3] at g0 g1
        obtain ⟨z0, q0, _, _⟩ := DataW.trod_int Try.underlying3 g0
        obtain ⟨z1, q1, _, _⟩ := DataW.trod_int Try.underlying3 g1
        simp only [List.cons.injEq, and_true] at q0 q1
        subst q0 q1
        exact ⟨(z0, z1), by simpa using e0, by simpa using e1⟩
    haveI : Inhabited Ed := ⟨(0, 0)⟩
    obtain ⟨f, hf⟩ := choose_lt he'
    obtain ⟨l, hl2⟩ : ∃ l, l = (List.range len).map f := ⟨_, rfl⟩
    have hll : l.length = len := by rw [hl2]; simp
    have hli : ∀ i (hi : i < l.length), l[i] = f i := by intro i hi; simp [hl2]
    obtain ⟨b, off, spot⟩ := a
    have c0 := (hf 0 (by omega)).1
    have hspot : spot = none := by simpa [Addr.add] using World.cell?_spot c0
    subst hspot
    refine ⟨l, ?_, by rw [hll]; exact hlen⟩
    have hget : ∀ i, i < len → (edC l)[i * 2]? = some (.int .i64 (f i).1) ∧ (edC l)[i * 2 + 1]? = some (.int .i64 (f i).2) := by
      intro i hi
      have h3 := edC_at (l := l) (i := i) (x := f i) (by rw [List.getElem?_eq_getElem (by omega), hli i (by omega)])
      have g0 := congrArg (·[0]?) h3
      have g1 := congrArg (·[1]?) h3
      simp at g0 g1
      exact ⟨g0, g1⟩
    have hcase : ∀ j, j < (edC l).length → ∃ z : Int, (edC l)[j]? = some (.int .i64 z) ∧ w.cell? ⟨b, off + j, none⟩ = some (.int .i64 z) := by
      intro j hj
      rw [edC_length, hll] at hj
      obtain ⟨i, r, hr, rfl⟩ : ∃ i r, r < 2 ∧ j = i * 2 + r := ⟨j / 2, j % 2, by omega, by omega⟩
      have hi : i < len := by omega
      obtain ⟨a0, a1⟩ := hget i hi
      obtain ⟨b0, b1⟩ := hf i hi
      rw [add_plain] at b0 b1
      have : r = 0 ∨ r = 1 := by omega
      rcases this with rfl | rfl
      · exact ⟨_, a0, b0⟩
      · exact ⟨_, a1, b1⟩
    obtain ⟨Z, hZ⟩ := choose_lt hcase
    have r : Rep w AHeap.empty (.slice (some ⟨b, off, none⟩) len m) (.sl len (edC l)) := by
      refine .sl (vs := fun j => .int .i64 (Z j)) hl rfl (World.block_lt_of_cell? _ _ c0) (fun j hj => (hZ j hj).2) ?_ ?_
      · intro y hy
        obtain ⟨x, _, h⟩ := List.mem_flatMap.1 hy
        simp at h
        rcases h with rfl | rfl <;> rfl
      · intro j hj
        have := (hZ j hj).1
        rw [List.getElem?_eq_getElem hj, Option.some.injEq] at this
        rw [this]
        exact .int _ _
    unfold edS
    rw [hll]; exact r
end
theorem rep_graph {H : Type} {enc : TypeId × Value → H} {W : World} {base : Nat} {v : Value} {d : DataW H} {p : List MemPlace} (hv : Value.okWide Try.prog W .any base 44 v)
    (h : DataW.Trod enc Try.prog W 0 (fun _ => true) true 44 v d p) (hs : Small Try.prog 44 d) : ∃ (n : Int) (l : List Ed), l.length ≤ 4611686018427387904 ∧ Rep W AHeap.empty v (.agg [.int .i64 n, edS l]) := by
  obtain ⟨v0, v1, y0, y1, n, rfl, rfl, rfl, h0, h1⟩ := open_agg2 Try.underlying44 (by kernel_rfl) (by kernel_rfl) hv h
  obtain ⟨z, r0, w0⟩ := rep_int Try.underlying3 h0
  obtain ⟨l, r1, l1⟩ := rep_edges h1 (small_part Try.underlying44 hs (j := 1) rfl rfl)
  have b55 : Try.prog.bytesOf 54 = 16 := by kernel_rfl
  have hreach : reachBytes = 140737488351232 := rfl
  rw [b55] at l1
  refine ⟨z, l, by omega, ?_⟩
  exact Rep.agg (w := W) (h := AHeap.empty) (vs := [v0, v1]) (cells := [.int .i64 z, edS l]) rfl (by simp [AV.one, edS]) (fun i hi hj => by
    match i, hi with
    | 0, _ => exact r0
    | 1, _ => exact r1)
theorem rep_list_arg {H : Type} {enc : TypeId × Value → H} {W : World} {base : Nat} {v : Value} {d : DataW H} {p : List MemPlace} (hv : Value.okWide Try.prog W .any base 24 v) (h : DataW.Trod enc Try.prog W 0 (fun _ => true) true 24 v d p) (hs : Small Try.prog 24 d) : ∃ a : List Int, Rep W AHeap.empty v (intS a) ∧ a.length ≤ 4611686018427387904 := by
  have b3 : Try.prog.bytesOf 3 = 8 := by kernel_rfl
  have hreach : reachBytes = 140737488351232 := rfl
  obtain ⟨x, hx, hd⟩ : ∃ x : DataW H × List MemPlace, (∃ fuel, DataW.trod enc Try.prog W 0 (fun _ => true) true fuel 24 [v] = some x) ∧ x.1 = d := by
    obtain ⟨fuel, hf⟩ := h
    have hc : v.cells.toList = [v] := by
      cases v <;> first | rfl | (simp [Value.okWide, Cell.okWide, Cell.ok, Try.underlying24] at hv; done)
    rw [hc] at hf
    exact ⟨(d, p), ⟨fuel, hf⟩, rfl⟩
  obtain ⟨fuel, hf⟩ := hx
  obtain ⟨a, ra, la, _⟩ := rep_ints Try.underlying24 Try.underlying3 (by kernel_rfl) hf (by rw [hd]; exact hs)
  rw [b3] at la
  exact ⟨a, ra, by omega⟩
end Go.Proofs

end

section
/-
  Pair: offers and pairs of lists, as they come in.
-/
namespace Go.Proofs
open Go Go.AH Go.ChangeShapes Go.WideShapes Go.Deep Go.Joins Go.RowKit
set_option maxRecDepth 100000
set_option maxHeartbeats 4000000

theorem rep_offer_arg {H : Type} {enc : TypeId × Value → H} {W : World} {base : Nat} {v : Value} {d : DataW H} {p : List MemPlace} (hv : Value.okWide Try.prog W .any base 22 v) (h : DataW.Trod enc Try.prog W 0 (fun _ => true) true 22 v d p) (hs : Small Try.prog 22 d) :
    ∃ l : List (List Int), Rep W AHeap.empty v (.sl l.length (partsC l)) ∧ l.length ≤ 4611686018427387904 ∧ ∀ r ∈ l, r.length ≤ 4611686018427387904 := by
  have b2 : Try.prog.bytesOf 2 = 8 := by kernel_rfl
  have b23 : Try.prog.bytesOf 23 = 24 := by kernel_rfl
  have hreach : reachBytes = 140737488351232 := rfl
  obtain ⟨x, hx, hd⟩ : ∃ x : DataW H × List MemPlace, (∃ fuel, DataW.trod enc Try.prog W 0 (fun _ => true) true fuel 22 [v] = some x) ∧ x.1 = d := by
    obtain ⟨fuel, hf⟩ := h
    have hc : v.cells.toList = [v] := by
      cases v <;> first | rfl | (simp [Value.okWide, Cell.okWide, Cell.ok, Try.underlying22] at hv; done)
    rw [hc] at hf
    exact ⟨(d, p), ⟨fuel, hf⟩, rfl⟩
  obtain ⟨fuel, hf⟩ := hx
  obtain ⟨l, ra, la, lb⟩ := rep_rows Try.underlying22 Try.underlying23 Try.underlying2 (by kernel_rfl) (by kernel_rfl) hf (by rw [hd]; exact hs)
  rw [b23] at la
  refine ⟨l, ra, by omega, fun r hr => ?_⟩
  have := (lb r hr).1
  rw [b2] at this
  omega
theorem small_elem {H : Type} {P : Program} {t e : TypeId} {k : Nat} (ht : P.underlying t = some (.array k e)) {ds : List (DataW H)} (h : Small P t (.agg ds)) {d : DataW H} (hd : d ∈ ds) : Small P e d := fun n hn => by
  refine h n ?_
  simp only [DataW.weights, ht]
  exact weights_all hd n hn
theorem rep_two_arg {H : Type} {enc : TypeId × Value → H} {W : World} {base : Nat} {v : Value} {d : DataW H} {p : List MemPlace} (hv : Value.okWide Try.prog W .any base 38 v) (h : DataW.Trod enc Try.prog W 0 (fun _ => true) true 38 v d p) (hs : Small Try.prog 38 d) :
    ∃ a b : List Int, Rep W AHeap.empty v (.agg [intS a, intS b]) ∧ a.length ≤ 4611686018427387904 ∧ b.length ≤ 4611686018427387904 := by
  have b2 : Try.prog.bytesOf 2 = 8 := by kernel_rfl
  have hreach : reachBytes = 140737488351232 := rfl
  have hC : Try.prog.cellsOf 38 = 2 := by kernel_rfl
  have hc3 : Try.prog.cellsOf 23 = 1 := by kernel_rfl
  obtain ⟨cs, rfl, hsz⟩ : ∃ cs : Array Value, v = .agg cs ∧ cs.size = 2 := by
    simp only [Value.okWide, Try.underlying38] at hv
    obtain ⟨cs, h1, h2, _⟩ := hv
    exact ⟨cs, h1, h2.trans hC⟩
  obtain ⟨fuel, hf⟩ := h
  obtain ⟨xs, m, hxe, hx, _, hxl, hel⟩ := DataW.trod_array Try.underlying38 hf
  obtain ⟨c0, c1, hcs⟩ : ∃ c0 c1, cs.toList = [c0, c1] := by
    have : cs.toList.length = 2 := by simpa using hsz
    match cs.toList, this with
    | [a, b], _ => exact ⟨a, b, rfl⟩
  obtain ⟨y0, y1, rfl⟩ : ∃ y0 y1, xs = [y0, y1] := by
    match xs, hxl with
    | [a, b], _ => exact ⟨a, b, rfl⟩
  have hv2 : Value.cells (.agg cs) = cs := rfl
  have e0 := hel 0 (by omega)
  have e1 := hel 1 (by omega)
  rw [hc3, hv2, hcs] at e0 e1
  simp at e0 e1
  have hd : d = .agg [y0.1, y1.1] := by simpa using congrArg Prod.fst hx
  subst hd
  obtain ⟨a, ra, la, _⟩ := rep_ints Try.underlying23 Try.underlying2 (by kernel_rfl) e0 (small_elem Try.underlying38 hs (by simp))
  obtain ⟨b, rb, lb, _⟩ := rep_ints Try.underlying23 Try.underlying2 (by kernel_rfl) e1 (small_elem Try.underlying38 hs (by simp))
  rw [b2] at la lb
  have r := Rep.agg (w := W) (h := AHeap.empty) (vs := [c0, c1]) (cells := [intS a, intS b]) rfl (by simp [AV.one, intS]) (fun i hi hj => by
    match i, hi with
    | 0, _ => exact ra
    | 1, _ => exact rb)
  rw [← hcs] at r
  exact ⟨a, b, r, by omega, by omega⟩
theorem rep_long_arg {H : Type} {enc : TypeId × Value → H} {W : World} {base : Nat} {v : Value} {d : DataW H} {p : List MemPlace} (hv : Value.okWide Try.prog W .any base 2 v) (h : DataW.Trod enc Try.prog W 0 (fun _ => true) true 2 v d p) : ∃ n : Int, Rep W AHeap.empty v (.int .i64 n) ∧ (Lit.int .i64 n).wf = true := by
  obtain ⟨n, rfl, rfl, rfl, wn⟩ := open_int Try.underlying2 hv h
  exact ⟨n, .int .i64 n, wn⟩
end Go.Proofs

end
