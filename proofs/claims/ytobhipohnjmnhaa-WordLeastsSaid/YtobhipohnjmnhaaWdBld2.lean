/-
  Walks told of the world: identity, with the library's builder.
-/
import Derived.Test.YtobhipohnjmnhaaWdBld
import Derived.Test.YtobhipohnjmnhaaWdLay
import Derived.WalkKit
import Derived.BigCall
set_option linter.unusedSimpArgs false
set_option linter.unusedVariables false
set_option linter.unusedSectionVars false
namespace Go.Proofs
open Go.RowKit
set_option maxHeartbeats 4000000 in
set_option maxRecDepth 1000000 in
theorem w_identity_w (n : Nat) (hn : n ≤ 100000) (w : World) :
    Calls Try.prog 127 #[.int .i64 n] w fun e w' => e = .returned (.string ⟨((List.range n).map fun i => UInt8.ofNat i).toArray⟩) ∧ Below w.heap.size w w' := by
  go_enter Try.func127, Try.ntmps127
  go_wp2
  go_loopw [6] (fun i wr => ∃ k : Nat, k ≤ n ∧ i = .int .i64 k ∧ Lib.IsBuilderF 136 5 w.heap.size w.heap.size (Lib.byteCells ((List.range k).map fun i => UInt8.ofNat i)) wr ∧ Below w.heap.size w wr) (fun i wr => n - (Lib.intOf i).toNat)
  case atStart =>
    exact ⟨0, Nat.zero_le _, rfl, Lib.IsBuilderF.of (Lib.fresh_isBuilder 136 5 w), (Below.refl _ w).alloc (Nat.le_refl _) _⟩
  case round =>
    obtain ⟨k, hk, rfl, hI, hbw⟩ := hrel
    by_cases hlt : k < n
    · have h8 : IntKind.u8.wrap (k : Int) = ((UInt8.ofNat k).toNat : Int) := by
        simp [IntKind.wrap, IntKind.bits, IntKind.signed]
      go_wp2_with (go_at_call 89; refine (Any.Builder_WriteByte_k bldL167 bldX w.heap.size w.heap.size _ _ _ hI (by rw [Lib.byteCells_length]; simp; omega) hbw.size).mono ?_)
      rintro e W1 ⟨rfl, h1, b1, k1⟩
      go_wp2
      go_roundw
      case rel =>
        refine ⟨k + 1, by omega, ?_, Or.inr ?_, hbw.trans b1⟩
        · congr 1
        · rw [List.range_succ, List.map_append, Lib.byteCells_append]
          have e : Lib.byteCells ([k].map fun i => UInt8.ofNat i) = [.int .u8 ((k : Int) % 256)] := by
            simp [Lib.byteCells]
          rw [e]
          exact h1
      case measure =>
        simp [Lib.intOf]; omega
    · obtain rfl : k = n := by omega
      go_wp2_with (go_at_call 90; refine (Any.Builder_String_any_k bldL169 bldX w.heap.size w.heap.size _ _ hI hbw.size).mono ?_)
      rintro e W1 ⟨rfl, _, b1, _⟩
      go_wp2
      go_ret
      exact ⟨rfl, hbw.trans b1⟩
end Go.Proofs
