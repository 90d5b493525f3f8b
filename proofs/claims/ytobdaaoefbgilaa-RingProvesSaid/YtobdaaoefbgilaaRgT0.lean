/-
  Ring: the protocols from which the law makes others, run by the evaluator.
-/
import Derived.Test.YtobdaaoefbgilaaAhXw
import Derived.Test.YtobdaaoefbgilaaRgF
set_option linter.unusedSimpArgs false
set_option linter.unusedVariables false
set_option linter.unusedSectionVars false
namespace Go.Proofs
open Go Go.AH
set_option maxRecDepth 100000

def dijT (c i k : Nat) : Int := if i = 0 ∧ k / c / c = k / c % c then ((k / c % c + 1) % c : Nat) else if 0 < i ∧ k / c / c ≠ k / c % c then (k / c / c : Nat) else -1
def dijR (m c : Nat) : Rul := ⟨m, c, (List.range m).map fun i => (List.range (c * c * c)).map (dijT c i)⟩
def hupF (m i x : Nat) : Nat := if i = m - 1 then 0 else if i = 0 then 1 else x % 2
def fourT (m i k : Nat) : Int :=
  let l := k / 16; let o := k / 4 % 4; let s := k % 4
  if i = 0 then (if s / 2 = o / 2 ∧ hupF m 1 s = 0 then (2 * (1 - (o / 2 : Nat)) + 1 : Int) else -1)
  else if i = m - 1 then (if l / 2 ≠ o / 2 then (2 * (l / 2) : Nat) else -1)
  else if l / 2 ≠ o / 2 then (2 * (l / 2) + 1 : Nat)
  else if hupF m i o = 1 ∧ s / 2 = o / 2 ∧ hupF m ((i + 1) % m) s = 0 then (2 * (o / 2) : Nat) else -1
def fourR (m : Nat) : Rul := ⟨m, 4, (List.range m).map fun i => (List.range 64).map (fourT m i)⟩

noncomputable def outR (p : AV × XH) : Option (Int × Int × List (List Int)) := match p.1 with
  | .tup [.agg [.int .i64 m, .int .i64 c, v], .bool true] => match ownRows p.2 v with
    | some (_, qs) => some (m, c, qs.map (·.2))
    | none => none
  | _ => none
theorem outR_ok {L : List Nat} (hL : ∀ f ∈ L, ∀ (args : Array Value) (w : World), (callFunc f args).run Try.prog w = .ok (.enter f args) w) {n : Nat} {f : FuncId} {args : List AV} {m c : Int} {rows : List (List Int)} (e : (xcallK Try.prog L n f args).bind outR = some (m, c, rows)) :
    ACalls Try.prog f args AHeap.empty fun r' H => ∃ bN bs, r' = .tup [.agg [.int .i64 m, .int .i64 c, .osl bN 0 rows.length 1], .bool true] ∧ RowsAt H bN bs rows := by
  obtain ⟨⟨r, h1⟩, e1, e2⟩ := Option.bind_eq_some_iff.1 e
  refine ACalls.mono (xcallK_ok (by kernel_rfl) hL e1) ?_
  rintro r' H ⟨ρ, R, rfl⟩
  unfold outR at e2
  simp only at e2
  split at e2
  · next m' c' v =>
    split at e2
    · next b qs hq =>
      cases e2
      obtain ⟨q1, q2⟩ := ownRows_spec R hq
      refine ⟨_, _, ?_, q2⟩
      simp only [ren, renL_eq, List.map_cons, List.map_nil, q1, List.length_map]
    · cases e2
  · cases e2
theorem refD_calls : ∀ f ∈ ([27, 31] : List Nat), ∀ (args : Array Value) (w : World), (callFunc f args).run Try.prog w = .ok (.enter f args) w := by
  intro f hf
  simp only [List.mem_cons, List.not_mem_nil, or_false] at hf
  rcases hf with rfl | rfl
  · exact Try.call27
  · exact Try.call31
theorem refF_calls : ∀ f ∈ ([46, 71, 81] : List Nat), ∀ (args : Array Value) (w : World), (callFunc f args).run Try.prog w = .ok (.enter f args) w := by
  intro f hf
  simp only [List.mem_cons, List.not_mem_nil, or_false] at hf
  rcases hf with rfl | rfl | rfl
  · exact Try.call46
  · exact Try.call71
  · exact Try.call81
theorem ev22 : (xcallK Try.prog [27, 31] 1000 31 [.int .i64 2, .int .i64 2]).bind outR = some (2, 2, (dijR 2 2).next) := by kernel_rfl
theorem ev32 : (xcallK Try.prog [27, 31] 1000 31 [.int .i64 3, .int .i64 2]).bind outR = some (3, 2, (dijR 3 2).next) := by kernel_rfl
theorem ev23 : (xcallK Try.prog [27, 31] 1000 31 [.int .i64 2, .int .i64 3]).bind outR = some (2, 3, (dijR 2 3).next) := by kernel_rfl
theorem ev42 : (xcallK Try.prog [27, 31] 1000 31 [.int .i64 4, .int .i64 2]).bind outR = some (4, 2, (dijR 4 2).next) := by kernel_rfl
theorem ev33 : (xcallK Try.prog [27, 31] 1000 31 [.int .i64 3, .int .i64 3]).bind outR = some (3, 3, (dijR 3 3).next) := by kernel_rfl
theorem ev24 : (xcallK Try.prog [27, 31] 1000 31 [.int .i64 2, .int .i64 4]).bind outR = some (2, 4, (dijR 2 4).next) := by kernel_rfl
theorem ev52 : (xcallK Try.prog [27, 31] 1000 31 [.int .i64 5, .int .i64 2]).bind outR = some (5, 2, (dijR 5 2).next) := by kernel_rfl
theorem evF3 : (xcallK Try.prog [46, 71, 81] 1000 46 [.int .i64 3]).bind outR = some (3, 4, (fourR 3).next) := by kernel_rfl
end Go.Proofs
