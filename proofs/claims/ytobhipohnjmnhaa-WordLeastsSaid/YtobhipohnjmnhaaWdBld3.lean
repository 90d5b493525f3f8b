/-
  Walks told of the world: a letter behind a word's map, with the library's builder.
-/
import Derived.Test.YtobhipohnjmnhaaWdBld2
import Derived.Test.YtobhipohnjmnhaaWdA
set_option linter.unusedSimpArgs false
set_option linter.unusedVariables false
set_option linter.unusedSectionVars false
namespace Go.Proofs
open Go Go.RowKit

/-- What the step makes of a map. -/
def behind (m : Dfa) (x : List UInt8) (i : Nat) : List UInt8 := x.map fun s => UInt8.ofNat ((m.next.getD s.toNat []).getD i 0)

set_option maxHeartbeats 4000000 in
set_option maxRecDepth 1000000 in
theorem w_monoid1_w (m : Dfa) (hn : m.next.length ≤ 128) (hlt : ∀ r ∈ m.next, ∀ x ∈ r, x < m.next.length) (x : List UInt8) (hx : ∀ s ∈ x, s.toNat < m.next.length) (hxl : x.length ≤ 100000) (i : Nat) (hi : i < m.k) (hi4 : i < 4) (w : World)
    (b off b1 o1 c1 : Nat) (hb : b < w.heap.size) (hb1 : b1 < w.heap.size) (hfld : w.cell? ⟨b, off + 1, none⟩ = some (.slice (some ⟨b1, o1, none⟩) m.next.length c1))
    (hrow : ∀ s, s < m.next.length → ∃ b2 o2 c2, b2 < w.heap.size ∧ w.cell? ⟨b1, o1 + s, none⟩ = some (.slice (some ⟨b2, o2, none⟩) m.k c2) ∧ w.cell? ⟨b2, o2 + i, none⟩ = some (.int .i64 ((m.next.getD s []).getD i 0 : Nat))) :
    Calls Try.prog 128 #[.string ⟨x.toArray⟩, .int .i64 i, .pointer (some ⟨b, off, none⟩)] w fun e w' => e = .returned (.string ⟨(behind m x i).toArray⟩) ∧ Below w.heap.size w w' := by
  go_enter Try.func128, Try.ntmps128
  go_wp2
  go_loopw [] (fun wr => ∃ (pos : Nat), pos ≤ x.length ∧ Lib.IsBuilderF 136 5 w.heap.size w.heap.size (Lib.byteCells ((x.take pos).map fun s => UInt8.ofNat ((m.next.getD s.toNat []).getD i 0))) wr ∧ wr.heap[w.heap.size + 1]? = some (.stringIter ⟨x.toArray⟩ pos) ∧ Below w.heap.size w wr) (fun wr => x.length - wr.iterPos (w.heap.size + 1))
  case atStart =>
    refine ⟨0, Nat.zero_le _, ?_, ?_, ((Below.refl _ w).alloc (Nat.le_refl _) _).alloc (by simp) _⟩
    · exact (Lib.IsBuilderF.of (Lib.fresh_isBuilder 136 5 w)).alloc _
    · have := World.iter_heap (w.alloc (.cells #[.pointer none, .slice none 0 0] 136)) ⟨x.toArray⟩ 0
      simpa using this
  case round =>
    obtain ⟨pos, hpl, hI, hit, hbw⟩ := hrel
    have hsz : w.heap.size + 1 < wr.heap.size := (Array.getElem?_eq_some_iff.1 hit).1
    have hsize : (⟨x.toArray⟩ : ByteArray).size = x.length := by simp [ByteArray.size]
    by_cases hp : pos < x.length
    · have hp' : pos < (⟨x.toArray⟩ : ByteArray).size := by rw [hsize]; exact hp
      have hget : (⟨x.toArray⟩ : ByteArray)[pos]'hp' = x[pos] := rfl
      have hs := hx x[pos] (List.getElem_mem hp)
      have hnx : ∀ ty, (Instr.next (.pointer (some ⟨w.heap.size + 1, 0, none⟩)) true ty).run Try.prog wr = .ok (.tuple #[.bool true, .int .i64 pos, .int .i32 (x[pos].toNat : Nat)]) (wr.iterAt (w.heap.size + 1) ⟨x.toArray⟩ (pos + 1)) := fun ty => by
        have := Lib.run_next_ascii_at (P := Try.prog) wr (w.heap.size + 1) ⟨x.toArray⟩ pos ty hit hp' (by rw [hget]; omega)
        rw [hget] at this
        exact this
      have hI2 := hI.iterAt hit (pos + 1)
      have hit2 := Lib.iterAt_heap wr (w.heap.size + 1) ⟨x.toArray⟩ pos (pos + 1) hit
      have hbw2 := Lib.below_iterAt hbw (k := w.heap.size + 1) (by omega) ⟨x.toArray⟩ (pos + 1)
      obtain ⟨b2, o2, c2, hb2, hr1, hr2⟩ := hrow x[pos].toNat hs
      have f1 := (hbw2.cell (p := ⟨b, off + 1, none⟩) hb).trans hfld
      have f2 := (hbw2.cell (p := ⟨b1, o1 + x[pos].toNat, none⟩) hb1).trans hr1
      have f3 := (hbw2.cell (p := ⟨b2, o2 + i, none⟩) hb2).trans hr2
      generalize hW : wr.iterAt (w.heap.size + 1) ⟨x.toArray⟩ (pos + 1) = W at hnx hI2 hit2 hbw2 f1 f2 f3
      generalize hy : (m.next.getD x[pos].toNat []).getD i 0 = y at f3
      go_wp2_with (go_at_call 89; refine (Any.Builder_WriteByte_k bldL167 bldX w.heap.size w.heap.size _ _ _ hI2 (by rw [Lib.byteCells_length]; simp; omega) hbw2.size).mono ?_)
      rintro e W1 ⟨rfl, h1, b1, k1⟩
      go_wp2
      go_roundw
      case rel =>
        refine ⟨pos + 1, by omega, Or.inr ?_, k1.iter hit2 (by omega), hbw2.trans b1⟩
        rw [List.take_succ_eq_append_getElem hp, List.map_append, Lib.byteCells_append]
        have e : Lib.byteCells ([x[pos]].map fun s => UInt8.ofNat ((m.next.getD s.toNat []).getD i 0)) = [.int .u8 ((y : Int) % 256)] := by
          simp only [List.map_cons, List.map_nil, hy]
          simp [Lib.byteCells]
        rw [e]
        exact h1
      case measure =>
        simp only [World.iterPos, k1.iter hit2 (by omega), hit]
        omega
    · obtain rfl : pos = x.length := by omega
      have hnx : ∀ ty, (Instr.next (.pointer (some ⟨w.heap.size + 1, 0, none⟩)) true ty).run Try.prog wr = _ := fun ty => Lib.run_next_end_at wr (w.heap.size + 1) ⟨x.toArray⟩ x.length ty hit (by rw [hsize]; omega)
      go_wp2_with (go_at_call 90; refine (Any.Builder_String_any_k bldL169 bldX w.heap.size w.heap.size _ _ hI hbw.size).mono ?_)
      rintro e W1 ⟨rfl, _, b1, _⟩
      go_wp2
      go_ret
      exact ⟨by simp [behind], hbw.trans b1⟩
end Go.Proofs
