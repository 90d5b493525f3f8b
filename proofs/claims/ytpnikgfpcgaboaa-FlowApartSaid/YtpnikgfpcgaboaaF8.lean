/-
  Texts: FlIn FlIn2 FlIn3.
-/
import Derived.Test.YtpnikgfpcgaboaaF1
import Derived.Test.YtpnikgfpcgaboaaAhEnd
import Derived.Lib.SmallJoins
import Derived.Test.YtpnikgfpcgaboaaAhIn
set_option linter.unusedSimpArgs false
set_option linter.unusedVariables false
set_option linter.unusedSectionVars false
section
/-
  Flow: arguments as they come in.
-/
namespace Go.Proofs
open Go Go.AH Go.ChangeShapes Go.WideShapes Go.Deep Go.Joins Go.RowKit
set_option maxRecDepth 10000
set_option maxHeartbeats 4000000

theorem try_laidOut : laidOutB Try.prog = true := by kernel_rfl
theorem wf_i64 {n : Int} (h : (Lit.int .i64 n).wf = true) : -9223372036854775808 ≤ n ∧ n ≤ 9223372036854775807 := by
  simpa [Lit.wf, IntKind.min, IntKind.max, IntKind.signed, IntKind.bits] using h
theorem rep_int_arg {H : Type} {enc : TypeId × Value → H} {W : World} {base : Nat} {v : Value} {d : DataW H} {p : List MemPlace} (hv : Value.okWide Try.prog W .any base 3 v) (h : DataW.Trod enc Try.prog W 0 (fun _ => true) true 3 v d p) : ∃ n : Int, Rep W AHeap.empty v (.int .i64 n) ∧ (Lit.int .i64 n).wf = true := by
  obtain ⟨n, rfl, rfl, rfl, wn⟩ := open_int Try.underlying3 hv h
  exact ⟨n, .int .i64 n, wn⟩
section
variable {H : Type} {enc : TypeId × Value → H} {w : World} {base : Nat} {held : Bool}
theorem rep_arcs {fuel : Nat} {v : Value} {x : DataW H × List MemPlace} (h : DataW.trod enc Try.prog w base (fun _ => true) held fuel 22 [v] = some x) (hs : Small Try.prog 22 x.1) :
    ∃ l : List RArc, Rep w AHeap.empty v (arcsA l) ∧ l.length * Try.prog.bytesOf 55 ≤ reachBytes := by
  have ce : Try.prog.cellsOf 55 = 3 := by kernel_rfl
  rcases open_slice Try.underlying22 h with ⟨hcs, hx⟩ | ⟨a, len, cap, m, n, D, Pl, hcs, hb, hl, hm, hmm, hxx, hx⟩
  · simp only [List.cons.injEq, and_true] at hcs
    subst hcs
    exact ⟨[], .sl0 _ _ _ (Nat.le_refl _), by simp⟩
  · simp only [if_true] at hmm
    subst hmm
    simp only [List.cons.injEq, and_true] at hcs
    subst hcs hxx
    have hlen : len * Try.prog.bytesOf 55 ≤ reachBytes := by
      have := hs ((len + (m - len)) * Try.prog.bytesOf 55) (by simp only [DataW.weights, Try.underlying22, List.length_map, List.length_range]; exact List.mem_cons_self)
      exact Nat.le_trans (Nat.mul_le_mul_right _ (by omega)) this
    by_cases h0 : len = 0
    · subst h0
      exact ⟨[], .sl0 _ _ _ hl, by simp⟩
    have he' : ∀ i, i < len → ∃ q : RArc, w.cell? (a.add (i * 3)) = some (.int .i64 q.a) ∧ w.cell? (a.add (i * 3 + 1)) = some (.int .i64 q.b) ∧ w.cell? (a.add (i * 3 + 2)) = some (.int .i64 q.c) := fun i hi => by
      obtain ⟨cs', h1, h2⟩ := hx i (by omega)
      rw [ce] at h1
      obtain ⟨_, hlen', hcell⟩ := World.cells?_some h1
      obtain ⟨y0, y1, y2, k, _, _, g0, g1, g2⟩ := trod_struct3 Try.underlying55 h2
      match cs', hlen' with
      | [v0, v1, v2], _ =>
        have e0 := hcell 0 (by omega)
        have e1 := hcell 1 (by omega)
        have e2 := hcell 2 (by omega)
        rw [add_add] at e0 e1 e2
        have c3 : Try.prog.cellsOf 3 = 1 := by kernel_rfl
        have c2 : Try.prog.cellsOf 2 = 1 := by kernel_rfl
        simp [c3, c2] at g0 g1 g2
        obtain ⟨z0, q0, _, _⟩ := DataW.trod_int Try.underlying3 g0
        obtain ⟨z1, q1, _, _⟩ := DataW.trod_int Try.underlying3 g1
        obtain ⟨z2, q2, _, _⟩ := DataW.trod_int Try.underlying2 g2
        simp only [List.cons.injEq, and_true] at q0 q1 q2
        subst q0 q1 q2
        exact ⟨⟨z0, z1, z2⟩, by simpa using e0, by simpa using e1, by simpa using e2⟩
    haveI : Inhabited RArc := ⟨⟨0, 0, 0⟩⟩
    obtain ⟨f, hf⟩ := choose_lt he'
    obtain ⟨l, hl2⟩ : ∃ l, l = (List.range len).map f := ⟨_, rfl⟩
    have hll : l.length = len := by rw [hl2]; simp
    have hli : ∀ i (hi : i < l.length), l[i] = f i := by intro i hi; simp [hl2]
    obtain ⟨b, off, spot⟩ := a
    have c0 := (hf 0 (by omega)).1
    have hspot : spot = none := by simpa [Addr.add] using World.cell?_spot c0
    subst hspot
    refine ⟨l, ?_, by rw [hll]; exact hlen⟩
    have hget : ∀ i, i < len → (arcC l)[i * 3]? = some (.int .i64 (f i).a) ∧ (arcC l)[i * 3 + 1]? = some (.int .i64 (f i).b) ∧ (arcC l)[i * 3 + 2]? = some (.int .i64 (f i).c) := by
      intro i hi
      have h3 := arcC_at (l := l) (i := i) (by omega)
      rw [hli i (by omega)] at h3
      have g0 := congrArg (·[0]?) h3
      have g1 := congrArg (·[1]?) h3
      have g2 := congrArg (·[2]?) h3
      simp at g0 g1 g2
      exact ⟨g0, g1, g2⟩
    have hcase : ∀ j, j < (arcC l).length → ∃ z : Int, (arcC l)[j]? = some (.int .i64 z) ∧ w.cell? ⟨b, off + j, none⟩ = some (.int .i64 z) := by
      intro j hj
      rw [arcC_length, hll] at hj
      obtain ⟨i, r, hr, rfl⟩ : ∃ i r, r < 3 ∧ j = i * 3 + r := ⟨j / 3, j % 3, by omega, by omega⟩
      have hi : i < len := by omega
      obtain ⟨a0, a1, a2⟩ := hget i hi
      obtain ⟨b0, b1, b2⟩ := hf i hi
      rw [add_plain] at b0 b1 b2
      have : r = 0 ∨ r = 1 ∨ r = 2 := by omega
      rcases this with rfl | rfl | rfl
      · exact ⟨_, a0, b0⟩
      · exact ⟨_, a1, b1⟩
      · exact ⟨_, a2, b2⟩
    obtain ⟨Z, hZ⟩ := choose_lt hcase
    have r : Rep w AHeap.empty (.slice (some ⟨b, off, none⟩) len m) (.sl len (arcC l)) := by
      refine .sl (vs := fun j => .int .i64 (Z j)) hl rfl (World.block_lt_of_cell? _ _ c0) (fun j hj => (hZ j hj).2) ?_ ?_
      · intro y hy
        obtain ⟨x, _, h⟩ := List.mem_flatMap.1 hy
        simp [RArc.cells] at h
        rcases h with rfl | rfl | rfl <;> rfl
      · intro j hj
        have := (hZ j hj).1
        rw [List.getElem?_eq_getElem hj, Option.some.injEq] at this
        rw [this]
        exact .int _ _
    unfold arcsA
    rw [hll]; exact r
end
theorem rep_net {H : Type} {enc : TypeId × Value → H} {W : World} {base : Nat} {v : Value} {d : DataW H} {p : List MemPlace} (hv : Value.okWide Try.prog W .any base 24 v)
    (h : DataW.Trod enc Try.prog W 0 (fun _ => true) true 24 v d p) (hs : Small Try.prog 24 d) : ∃ a : RNet, a.arcs.length ≤ 4611686018427387904 ∧ Rep W AHeap.empty v a.av := by
  obtain ⟨v0, v1, y0, y1, n, rfl, rfl, rfl, h0, h1⟩ := open_agg2 Try.underlying24 (by kernel_rfl) (by kernel_rfl) hv h
  obtain ⟨z, r0, w0⟩ := rep_int Try.underlying3 h0
  obtain ⟨l, r1, l1⟩ := rep_arcs h1 (small_part Try.underlying24 hs (j := 1) rfl rfl)
  have b55 : Try.prog.bytesOf 55 = 24 := by kernel_rfl
  have hreach : reachBytes = 140737488351232 := rfl
  rw [b55] at l1
  refine ⟨⟨z, l⟩, by simp only; omega, ?_⟩
  exact Rep.agg (w := W) (h := AHeap.empty) (vs := [v0, v1]) (cells := [.int .i64 z, arcsA l]) rfl (by simp [AV.one, arcsA]) (fun i hi hj => by
    match i, hi with
    | 0, _ => exact r0
    | 1, _ => exact r1)
end Go.Proofs

end

section
/-
  Flow: the arguments, read: pairs and lists of numbers.
-/
namespace Go.Proofs
open Go Go.AH Go.ChangeShapes Go.WideShapes Go.Deep Go.Joins Go.RowKit
set_option maxRecDepth 100000
section
variable {H : Type} {enc : TypeId × Value → H} {W : World} {base : Nat} {v : Value} {d : DataW H} {p : List MemPlace}
theorem rep_of_arg (hv : Value.okWide Try.prog W .any base 38 v) (h : DataW.Trod enc Try.prog W 0 (fun _ => true) true 38 v d p) : ∃ a b : Int, Rep W AHeap.empty v (.agg [.int .i64 a, .int .i64 b]) ∧ (Lit.int .i64 a).wf = true ∧ (Lit.int .i64 b).wf = true := by
  have hC : Try.prog.cellsOf 38 = 2 := by kernel_rfl
  have hc3 : Try.prog.cellsOf 3 = 1 := by kernel_rfl
  obtain ⟨cs, rfl, hsz⟩ : ∃ cs : Array Value, v = .agg cs ∧ cs.size = 2 := by
    simp only [Value.okWide, Try.underlying38] at hv
    obtain ⟨cs, h1, h2, _⟩ := hv
    exact ⟨cs, h1, h2.trans hC⟩
  obtain ⟨fuel, hf⟩ := h
  obtain ⟨xs, m, rfl, hx, _, hxl, hel⟩ := DataW.trod_array Try.underlying38 hf
  obtain ⟨c0, c1, hcs⟩ : ∃ c0 c1, cs.toList = [c0, c1] := by
    have : cs.toList.length = 2 := by simpa using hsz
    match cs.toList, this with
    | [a, b], _ => exact ⟨a, b, rfl⟩
  obtain ⟨y0, y1, rfl⟩ : ∃ y0 y1, xs = [y0, y1] := by
    match xs, hxl with
    | [a, b], _ => exact ⟨a, b, rfl⟩
  have hv2 : Value.cells (.agg cs) = cs := rfl
  have e0 := hel 0 (by omega)
  have e1 := hel 1 (by omega)
  rw [hc3, hv2, hcs] at e0 e1
  simp at e0 e1
  obtain ⟨a, ra, wa⟩ := rep_int Try.underlying3 e0
  obtain ⟨b, rb, wb⟩ := rep_int Try.underlying3 e1
  have r := Rep.agg (w := W) (h := AHeap.empty) (vs := [c0, c1]) (cells := [.int .i64 a, .int .i64 b]) rfl (by simp [AV.one]) (fun i hi hj => by
    match i, hi with
    | 0, _ => exact ra
    | 1, _ => exact rb)
  rw [← hcs] at r
  exact ⟨a, b, r, wa, wb⟩
theorem rep_list_arg (hv : Value.okWide Try.prog W .any base 34 v) (h : DataW.Trod enc Try.prog W 0 (fun _ => true) true 34 v d p) (hs : Small Try.prog 34 d) : ∃ a : List Int, Rep W AHeap.empty v (intsA a) ∧ a.length ≤ 18000000000000 := by
  have b3 : Try.prog.bytesOf 3 = 8 := by kernel_rfl
  have hreach : reachBytes = 140737488351232 := rfl
  obtain ⟨x, hx, hd⟩ : ∃ x : DataW H × List MemPlace, (∃ fuel, DataW.trod enc Try.prog W 0 (fun _ => true) true fuel 34 [v] = some x) ∧ x.1 = d := by
    obtain ⟨fuel, hf⟩ := h
    have hc : v.cells.toList = [v] := by
      cases v <;> first | rfl | (simp [Value.okWide, Cell.okWide, Cell.ok, Try.underlying34] at hv; done)
    rw [hc] at hf
    exact ⟨(d, p), ⟨fuel, hf⟩, rfl⟩
  obtain ⟨fuel, hf⟩ := hx
  obtain ⟨a, ra, la, _⟩ := rep_ints Try.underlying34 Try.underlying3 (by kernel_rfl) hf (by rw [hd]; exact hs)
  rw [b3] at la
  exact ⟨a, ra, by omega⟩
theorem rep_longs_arg (hv : Value.okWide Try.prog W .any base 41 v) (h : DataW.Trod enc Try.prog W 0 (fun _ => true) true 41 v d p) (hs : Small Try.prog 41 d) : ∃ a : List Int, Rep W AHeap.empty v (intsA a) ∧ a.length ≤ 18000000000000 := by
  have b3 : Try.prog.bytesOf 2 = 8 := by kernel_rfl
  have hreach : reachBytes = 140737488351232 := rfl
  obtain ⟨x, hx, hd⟩ : ∃ x : DataW H × List MemPlace, (∃ fuel, DataW.trod enc Try.prog W 0 (fun _ => true) true fuel 41 [v] = some x) ∧ x.1 = d := by
    obtain ⟨fuel, hf⟩ := h
    have hc : v.cells.toList = [v] := by
      cases v <;> first | rfl | (simp [Value.okWide, Cell.okWide, Cell.ok, Try.underlying41] at hv; done)
    rw [hc] at hf
    exact ⟨(d, p), ⟨fuel, hf⟩, rfl⟩
  obtain ⟨fuel, hf⟩ := hx
  obtain ⟨a, ra, la, _⟩ := rep_ints Try.underlying41 Try.underlying2 (by kernel_rfl) hf (by rw [hd]; exact hs)
  rw [b3] at la
  exact ⟨a, ra, by omega⟩
end
end Go.Proofs

end

section
/-
  Flow: boards as they come in.
-/
namespace Go.Proofs
open Go Go.AH Go.ChangeShapes Go.WideShapes Go.Deep Go.Joins Go.RowKit
set_option maxRecDepth 10000
set_option maxHeartbeats 4000000

section
variable {H : Type} {enc : TypeId × Value → H} {w : World} {base : Nat} {held : Bool}
theorem rep_links {fuel : Nat} {v : Value} {x : DataW H × List MemPlace} (h : DataW.trod enc Try.prog w base (fun _ => true) held fuel 70 [v] = some x) (hs : Small Try.prog 70 x.1) :
    ∃ l : List RArc, Rep w AHeap.empty v (arcsA l) ∧ l.length * Try.prog.bytesOf 127 ≤ reachBytes := by
  have ce : Try.prog.cellsOf 127 = 3 := by kernel_rfl
  rcases open_slice Try.underlying70 h with ⟨hcs, hx⟩ | ⟨a, len, cap, m, n, D, Pl, hcs, hb, hl, hm, hmm, hxx, hx⟩
  · simp only [List.cons.injEq, and_true] at hcs
    subst hcs
    exact ⟨[], .sl0 _ _ _ (Nat.le_refl _), by simp⟩
  · simp only [if_true] at hmm
    subst hmm
    simp only [List.cons.injEq, and_true] at hcs
    subst hcs hxx
    have hlen : len * Try.prog.bytesOf 127 ≤ reachBytes := by
      have := hs ((len + (m - len)) * Try.prog.bytesOf 127) (by simp only [DataW.weights, Try.underlying70, List.length_map, List.length_range]; exact List.mem_cons_self)
      exact Nat.le_trans (Nat.mul_le_mul_right _ (by omega)) this
    by_cases h0 : len = 0
    · subst h0
      exact ⟨[], .sl0 _ _ _ hl, by simp⟩
    have he' : ∀ i, i < len → ∃ q : RArc, w.cell? (a.add (i * 3)) = some (.int .i64 q.a) ∧ w.cell? (a.add (i * 3 + 1)) = some (.int .i64 q.b) ∧ w.cell? (a.add (i * 3 + 2)) = some (.int .i64 q.c) := fun i hi => by
      obtain ⟨cs', h1, h2⟩ := hx i (by omega)
      rw [ce] at h1
      obtain ⟨_, hlen', hcell⟩ := World.cells?_some h1
      obtain ⟨y0, y1, y2, k, _, _, g0, g1, g2⟩ := trod_struct3 Try.underlying127 h2
      match cs', hlen' with
      | [v0, v1, v2], _ =>
        have e0 := hcell 0 (by omega)
        have e1 := hcell 1 (by omega)
        have e2 := hcell 2 (by omega)
        rw [add_add] at e0 e1 e2
        have c3 : Try.prog.cellsOf 3 = 1 := by kernel_rfl
        have c2 : Try.prog.cellsOf 2 = 1 := by kernel_rfl
        simp [c3, c2] at g0 g1 g2
        obtain ⟨z0, q0, _, _⟩ := DataW.trod_int Try.underlying3 g0
        obtain ⟨z1, q1, _, _⟩ := DataW.trod_int Try.underlying3 g1
        obtain ⟨z2, q2, _, _⟩ := DataW.trod_int Try.underlying2 g2
        simp only [List.cons.injEq, and_true] at q0 q1 q2
        subst q0 q1 q2
        exact ⟨⟨z0, z1, z2⟩, by simpa using e0, by simpa using e1, by simpa using e2⟩
    haveI : Inhabited RArc := ⟨⟨0, 0, 0⟩⟩
    obtain ⟨f, hf⟩ := choose_lt he'
    obtain ⟨l, hl2⟩ : ∃ l, l = (List.range len).map f := ⟨_, rfl⟩
    have hll : l.length = len := by rw [hl2]; simp
    have hli : ∀ i (hi : i < l.length), l[i] = f i := by intro i hi; simp [hl2]
    obtain ⟨b, off, spot⟩ := a
    have c0 := (hf 0 (by omega)).1
    have hspot : spot = none := by simpa [Addr.add] using World.cell?_spot c0
    subst hspot
    refine ⟨l, ?_, by rw [hll]; exact hlen⟩
    have hget : ∀ i, i < len → (arcC l)[i * 3]? = some (.int .i64 (f i).a) ∧ (arcC l)[i * 3 + 1]? = some (.int .i64 (f i).b) ∧ (arcC l)[i * 3 + 2]? = some (.int .i64 (f i).c) := by
      intro i hi
      have h3 := arcC_at (l := l) (i := i) (by omega)
      rw [hli i (by omega)] at h3
      have g0 := congrArg (·[0]?) h3
      have g1 := congrArg (·[1]?) h3
      have g2 := congrArg (·[2]?) h3
      simp at g0 g1 g2
      exact ⟨g0, g1, g2⟩
    have hcase : ∀ j, j < (arcC l).length → ∃ z : Int, (arcC l)[j]? = some (.int .i64 z) ∧ w.cell? ⟨b, off + j, none⟩ = some (.int .i64 z) := by
      intro j hj
      rw [arcC_length, hll] at hj
      obtain ⟨i, r, hr, rfl⟩ : ∃ i r, r < 3 ∧ j = i * 3 + r := ⟨j / 3, j % 3, by omega, by omega⟩
      have hi : i < len := by omega
      obtain ⟨a0, a1, a2⟩ := hget i hi
      obtain ⟨b0, b1, b2⟩ := hf i hi
      rw [add_plain] at b0 b1 b2
      have : r = 0 ∨ r = 1 ∨ r = 2 := by omega
      rcases this with rfl | rfl | rfl
      · exact ⟨_, a0, b0⟩
      · exact ⟨_, a1, b1⟩
      · exact ⟨_, a2, b2⟩
    obtain ⟨Z, hZ⟩ := choose_lt hcase
    have r : Rep w AHeap.empty (.slice (some ⟨b, off, none⟩) len m) (.sl len (arcC l)) := by
      refine .sl (vs := fun j => .int .i64 (Z j)) hl rfl (World.block_lt_of_cell? _ _ c0) (fun j hj => (hZ j hj).2) ?_ ?_
      · intro y hy
        obtain ⟨x, _, h⟩ := List.mem_flatMap.1 hy
        simp [RArc.cells] at h
        rcases h with rfl | rfl | rfl <;> rfl
      · intro j hj
        have := (hZ j hj).1
        rw [List.getElem?_eq_getElem hj, Option.some.injEq] at this
        rw [this]
        exact .int _ _
    unfold arcsA
    rw [hll]; exact r
end
theorem rep_board {H : Type} {enc : TypeId × Value → H} {W : World} {base : Nat} {v : Value} {d : DataW H} {p : List MemPlace} (hv : Value.okWide Try.prog W .any base 72 v)
    (h : DataW.Trod enc Try.prog W 0 (fun _ => true) true 72 v d p) (hs : Small Try.prog 72 d) : ∃ a : RNet, a.arcs.length ≤ 4611686018427387904 ∧ Rep W AHeap.empty v a.av := by
  obtain ⟨v0, v1, y0, y1, n, rfl, rfl, rfl, h0, h1⟩ := open_agg2 Try.underlying72 (by kernel_rfl) (by kernel_rfl) hv h
  obtain ⟨z, r0, w0⟩ := rep_int Try.underlying3 h0
  obtain ⟨l, r1, l1⟩ := rep_links h1 (small_part Try.underlying72 hs (j := 1) rfl rfl)
  have b127 : Try.prog.bytesOf 127 = 24 := by kernel_rfl
  have hreach : reachBytes = 140737488351232 := rfl
  rw [b127] at l1
  refine ⟨⟨z, l⟩, by simp only; omega, ?_⟩
  exact Rep.agg (w := W) (h := AHeap.empty) (vs := [v0, v1]) (cells := [.int .i64 z, arcsA l]) rfl (by simp [AV.one, arcsA]) (fun i hi hj => by
    match i, hi with
    | 0, _ => exact r0
    | 1, _ => exact r1)
end Go.Proofs

end
