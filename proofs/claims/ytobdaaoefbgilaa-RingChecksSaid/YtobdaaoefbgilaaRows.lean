/-
  No cell of these rows narrows 'for every input' (looked for: loops, veiled, ifaces, maps, wideKeys, modest, calm, conditions, laid).
  DERIVED. THE GIVEN ROWS OF THIS SEAT. 8 by the template 'for every input the law returns true; each argument reads behind the call as it read before'; 0 by the template 'total and deterministic' (their statements: YtobdaaoefbgilaaTotals.lean).
  GIVEN WITH THE SEED: the statements are not yours to turn. If you find one false, say at which input.
  Laid BY PROGRAM, IN A SANDBOX (cutbox-rows.mjs): the forced cells as the released guide's own fill.sh prints them over the translation 6b14868fb266b6b6… (all of the seat's roots in one cut). By AI agents, Wed Nov 11 2026. No macro, syntax, notation, axiom, sorry.
-/
import Derived.Test.YtobdaaoefbgilaaChecked
import GoSem.Claim
import GoSem.ClaimJoined
import GoSem.ClaimMapViews
import Derived.JoinedTies
import Derived.KernelRfl
namespace Go.Proofs.Ytobdaaoefbgilaa
/- THE CELL 'sum', in the pinned program and in every row, IS THE sha256 OF THE DUMP (.gsa) THAT YtobdaaoefbgilaaProg.lean LOADS. Nothing in Lean hashes anything: it is a label: what it is worth is what the hold of that sum in a sandbox is worth. -/
noncomputable def Try.pinned : Pinned := { name := "ytobdaaoefbgilaa", sum := "6b14868fb266b6b6842ff05587598859241afb23be40fa08b1e4e4c57863181f", checked := Try.checked }
namespace Rows
def none {H : Type} : Left H := { results := [], args := [] }

/-- 'minikinlaw08.RingPlays': WHATEVER THE INPUT: true; the input reads as it did. -/
def ringPlaysSpec : ChangeSpec := { name := "ringPlays", fn := fun _ => fun
  | [d1, d2] => { results := [.lit (.bool true)], args := [d1, d2] }
  | _ => none }
def ringPlaysRow : OpenClaim := { program := "ytobdaaoefbgilaa", sum := "6b14868fb266b6b6842ff05587598859241afb23be40fa08b1e4e4c57863181f", func := "minikin/minikinlaw08.RingPlays", spec := "ringPlays", unfollowed := true, recurses := true, apart := false }
def RingPlaysSaid : Prop := ringPlaysRow.holds Try.pinned (OpenSpec.ofChange ringPlaysSpec)

/-- ITS FALSE NEIGHBOUR: 'it returns false'. Refute it at one input. -/
def ringPlaysWrong : ChangeSpec := { name := "ringPlays", fn := fun _ => fun
  | [d1, d2] => { results := [.lit (.bool false)], args := [d1, d2] }
  | _ => none }
def RingPlaysWrongFalsely : Prop := ringPlaysRow.holds Try.pinned (OpenSpec.ofChange ringPlaysWrong)

/-- 'minikinlaw08.RingSteps': WHATEVER THE INPUT: true; the input reads as it did. -/
def ringStepsSpec : ChangeSpec := { name := "ringSteps", fn := fun _ => fun
  | [d1, d2, d3] => { results := [.lit (.bool true)], args := [d1, d2, d3] }
  | _ => none }
def ringStepsRow : OpenClaim := { program := "ytobdaaoefbgilaa", sum := "6b14868fb266b6b6842ff05587598859241afb23be40fa08b1e4e4c57863181f", func := "minikin/minikinlaw08.RingSteps", spec := "ringSteps", unfollowed := true, recurses := true, apart := false }
def RingStepsSaid : Prop := ringStepsRow.holds Try.pinned (OpenSpec.ofChange ringStepsSpec)

/-- ITS FALSE NEIGHBOUR: 'it returns false'. Refute it at one input. -/
def ringStepsWrong : ChangeSpec := { name := "ringSteps", fn := fun _ => fun
  | [d1, d2, d3] => { results := [.lit (.bool false)], args := [d1, d2, d3] }
  | _ => none }
def RingStepsWrongFalsely : Prop := ringStepsRow.holds Try.pinned (OpenSpec.ofChange ringStepsWrong)

/-- 'minikinlaw08.RingRests': WHATEVER THE INPUT: true; the input reads as it did. -/
def ringRestsSpec : ChangeSpec := { name := "ringRests", fn := fun _ => fun
  | [d1, d2] => { results := [.lit (.bool true)], args := [d1, d2] }
  | _ => none }
def ringRestsRow : OpenClaim := { program := "ytobdaaoefbgilaa", sum := "6b14868fb266b6b6842ff05587598859241afb23be40fa08b1e4e4c57863181f", func := "minikin/minikinlaw08.RingRests", spec := "ringRests", unfollowed := true, recurses := true, apart := false }
def RingRestsSaid : Prop := ringRestsRow.holds Try.pinned (OpenSpec.ofChange ringRestsSpec)

/-- ITS FALSE NEIGHBOUR: 'it returns false'. Refute it at one input. -/
def ringRestsWrong : ChangeSpec := { name := "ringRests", fn := fun _ => fun
  | [d1, d2] => { results := [.lit (.bool false)], args := [d1, d2] }
  | _ => none }
def RingRestsWrongFalsely : Prop := ringRestsRow.holds Try.pinned (OpenSpec.ofChange ringRestsWrong)

/-- 'minikinlaw08.RingDijkstra': WHATEVER THE INPUT: true; the input reads as it did. -/
def ringDijkstraSpec : ChangeSpec := { name := "ringDijkstra", fn := fun _ => fun
  | [d] => { results := [.lit (.bool true)], args := [d] }
  | _ => none }
def ringDijkstraRow : OpenClaim := { program := "ytobdaaoefbgilaa", sum := "6b14868fb266b6b6842ff05587598859241afb23be40fa08b1e4e4c57863181f", func := "minikin/minikinlaw08.RingDijkstra", spec := "ringDijkstra", unfollowed := true, recurses := true, apart := false }
def RingDijkstraSaid : Prop := ringDijkstraRow.holds Try.pinned (OpenSpec.ofChange ringDijkstraSpec)

/-- ITS FALSE NEIGHBOUR: 'it returns false'. Refute it at one input. -/
def ringDijkstraWrong : ChangeSpec := { name := "ringDijkstra", fn := fun _ => fun
  | [d] => { results := [.lit (.bool false)], args := [d] }
  | _ => none }
def RingDijkstraWrongFalsely : Prop := ringDijkstraRow.holds Try.pinned (OpenSpec.ofChange ringDijkstraWrong)

/-- 'minikinlaw08.RingProves': WHATEVER THE INPUT: true; the input reads as it did. -/
def ringProvesSpec : ChangeSpec := { name := "ringProves", fn := fun _ => fun
  | [d1, d2, d3] => { results := [.lit (.bool true)], args := [d1, d2, d3] }
  | _ => none }
def ringProvesRow : OpenClaim := { program := "ytobdaaoefbgilaa", sum := "6b14868fb266b6b6842ff05587598859241afb23be40fa08b1e4e4c57863181f", func := "minikin/minikinlaw08.RingProves", spec := "ringProves", unfollowed := true, recurses := true, apart := false }
def RingProvesSaid : Prop := ringProvesRow.holds Try.pinned (OpenSpec.ofChange ringProvesSpec)

/-- ITS FALSE NEIGHBOUR: 'it returns false'. Refute it at one input. -/
def ringProvesWrong : ChangeSpec := { name := "ringProves", fn := fun _ => fun
  | [d1, d2, d3] => { results := [.lit (.bool false)], args := [d1, d2, d3] }
  | _ => none }
def RingProvesWrongFalsely : Prop := ringProvesRow.holds Try.pinned (OpenSpec.ofChange ringProvesWrong)

/-- 'minikinlaw08.RingEither': WHATEVER THE INPUT: true; the input reads as it did. -/
def ringEitherSpec : ChangeSpec := { name := "ringEither", fn := fun _ => fun
  | [d1, d2] => { results := [.lit (.bool true)], args := [d1, d2] }
  | _ => none }
def ringEitherRow : OpenClaim := { program := "ytobdaaoefbgilaa", sum := "6b14868fb266b6b6842ff05587598859241afb23be40fa08b1e4e4c57863181f", func := "minikin/minikinlaw08.RingEither", spec := "ringEither", unfollowed := true, recurses := true, apart := false }
def RingEitherSaid : Prop := ringEitherRow.holds Try.pinned (OpenSpec.ofChange ringEitherSpec)

/-- ITS FALSE NEIGHBOUR: 'it returns false'. Refute it at one input. -/
def ringEitherWrong : ChangeSpec := { name := "ringEither", fn := fun _ => fun
  | [d1, d2] => { results := [.lit (.bool false)], args := [d1, d2] }
  | _ => none }
def RingEitherWrongFalsely : Prop := ringEitherRow.holds Try.pinned (OpenSpec.ofChange ringEitherWrong)

/-- 'minikinlaw08.RingJudges': WHATEVER THE INPUT: true; the input reads as it did. -/
def ringJudgesSpec : ChangeSpec := { name := "ringJudges", fn := fun _ => fun
  | [d1, d2] => { results := [.lit (.bool true)], args := [d1, d2] }
  | _ => none }
def ringJudgesRow : OpenClaim := { program := "ytobdaaoefbgilaa", sum := "6b14868fb266b6b6842ff05587598859241afb23be40fa08b1e4e4c57863181f", func := "minikin/minikinlaw08.RingJudges", spec := "ringJudges", unfollowed := true, recurses := true, apart := false }
def RingJudgesSaid : Prop := ringJudgesRow.holds Try.pinned (OpenSpec.ofChange ringJudgesSpec)

/-- ITS FALSE NEIGHBOUR: 'it returns false'. Refute it at one input. -/
def ringJudgesWrong : ChangeSpec := { name := "ringJudges", fn := fun _ => fun
  | [d1, d2] => { results := [.lit (.bool false)], args := [d1, d2] }
  | _ => none }
def RingJudgesWrongFalsely : Prop := ringJudgesRow.holds Try.pinned (OpenSpec.ofChange ringJudgesWrong)

/-- 'minikinlaw08.RingChecks': WHATEVER THE INPUT: true; the input reads as it did. -/
def ringChecksSpec : ChangeSpec := { name := "ringChecks", fn := fun _ => fun
  | [d1, d2] => { results := [.lit (.bool true)], args := [d1, d2] }
  | _ => none }
def ringChecksRow : OpenClaim := { program := "ytobdaaoefbgilaa", sum := "6b14868fb266b6b6842ff05587598859241afb23be40fa08b1e4e4c57863181f", func := "minikin/minikinlaw08.RingChecks", spec := "ringChecks", unfollowed := true, recurses := true, apart := false }
def RingChecksSaid : Prop := ringChecksRow.holds Try.pinned (OpenSpec.ofChange ringChecksSpec)

/-- ITS FALSE NEIGHBOUR: 'it returns false'. Refute it at one input. -/
def ringChecksWrong : ChangeSpec := { name := "ringChecks", fn := fun _ => fun
  | [d1, d2] => { results := [.lit (.bool false)], args := [d1, d2] }
  | _ => none }
def RingChecksWrongFalsely : Prop := ringChecksRow.holds Try.pinned (OpenSpec.ofChange ringChecksWrong)

/- THE SECOND FORM. 'bulk': how many values and letters a reading holds, each counted each time it is reached (what is shared counts as often as it is met; a slice's spare places count too). A statement '..UptoSaid' is the law's where the arguments, and the package variables that the reading takes, are together of bulk at most 1048576: NARROWER than '..Said'. Prove '..Said' where nothing that the law and all that it calls make is longer than what came in: it says more and counts as full. Else prove '..UptoSaid'. A law counts once. -/
mutual
def uptoBulk {H : Type} : DataW H → Nat
  | .lit (.string bytes) => bytes.length + 1
  | .lit _ => 1
  | .nil => 1
  | .ptr d => uptoBulk d + 1
  | .slice elems spare => uptoBulkAll elems + uptoBulkAll spare + 1
  | .agg parts => uptoBulkAll parts + 1
  | .iface _ d => uptoBulk d + 1
  | .map entries => uptoBulkEntries entries + 1
  | .held _ => 1
def uptoBulkAll {H : Type} : List (DataW H) → Nat
  | [] => 0
  | d :: r => uptoBulk d + uptoBulkAll r
def uptoBulkEntries {H : Type} : List (Lit × DataW H) → Nat
  | [] => 0
  | x :: r => uptoBulkEntry x + uptoBulkEntries r
def uptoBulkEntry {H : Type} : Lit × DataW H → Nat
  | (.string bytes, d) => bytes.length + uptoBulk d + 1
  | (_, d) => uptoBulk d + 1
 end
def uptoSmall : (H : Type) → List (DataW H) → Bool := fun _ ds => decide (uptoBulkAll ds ≤ 1048576)
def OpenSpec.upto (s : _root_.Go.ChangeSpec) : _root_.Go.OpenSpec := { _root_.Go.OpenSpec.ofChange s with cond := some uptoSmall }

/-- 'minikinlaw08.RingPlays', WHERE WHAT IT READS IS OF BULK AT MOST 1048576: true; the input reads as it did. -/
def ringPlaysUptoRow : OpenClaim := { program := "ytobdaaoefbgilaa", sum := "6b14868fb266b6b6842ff05587598859241afb23be40fa08b1e4e4c57863181f", func := "minikin/minikinlaw08.RingPlays", spec := "ringPlays", unfollowed := true, recurses := true, apart := false, narrowed := true }
def RingPlaysUptoSaid : Prop := ringPlaysUptoRow.holds Try.pinned (OpenSpec.upto ringPlaysSpec)

/-- 'minikinlaw08.RingSteps', WHERE WHAT IT READS IS OF BULK AT MOST 1048576: true; the input reads as it did. -/
def ringStepsUptoRow : OpenClaim := { program := "ytobdaaoefbgilaa", sum := "6b14868fb266b6b6842ff05587598859241afb23be40fa08b1e4e4c57863181f", func := "minikin/minikinlaw08.RingSteps", spec := "ringSteps", unfollowed := true, recurses := true, apart := false, narrowed := true }
def RingStepsUptoSaid : Prop := ringStepsUptoRow.holds Try.pinned (OpenSpec.upto ringStepsSpec)

/-- 'minikinlaw08.RingRests', WHERE WHAT IT READS IS OF BULK AT MOST 1048576: true; the input reads as it did. -/
def ringRestsUptoRow : OpenClaim := { program := "ytobdaaoefbgilaa", sum := "6b14868fb266b6b6842ff05587598859241afb23be40fa08b1e4e4c57863181f", func := "minikin/minikinlaw08.RingRests", spec := "ringRests", unfollowed := true, recurses := true, apart := false, narrowed := true }
def RingRestsUptoSaid : Prop := ringRestsUptoRow.holds Try.pinned (OpenSpec.upto ringRestsSpec)

/-- 'minikinlaw08.RingDijkstra', WHERE WHAT IT READS IS OF BULK AT MOST 1048576: true; the input reads as it did. -/
def ringDijkstraUptoRow : OpenClaim := { program := "ytobdaaoefbgilaa", sum := "6b14868fb266b6b6842ff05587598859241afb23be40fa08b1e4e4c57863181f", func := "minikin/minikinlaw08.RingDijkstra", spec := "ringDijkstra", unfollowed := true, recurses := true, apart := false, narrowed := true }
def RingDijkstraUptoSaid : Prop := ringDijkstraUptoRow.holds Try.pinned (OpenSpec.upto ringDijkstraSpec)

/-- 'minikinlaw08.RingProves', WHERE WHAT IT READS IS OF BULK AT MOST 1048576: true; the input reads as it did. -/
def ringProvesUptoRow : OpenClaim := { program := "ytobdaaoefbgilaa", sum := "6b14868fb266b6b6842ff05587598859241afb23be40fa08b1e4e4c57863181f", func := "minikin/minikinlaw08.RingProves", spec := "ringProves", unfollowed := true, recurses := true, apart := false, narrowed := true }
def RingProvesUptoSaid : Prop := ringProvesUptoRow.holds Try.pinned (OpenSpec.upto ringProvesSpec)

/-- 'minikinlaw08.RingEither', WHERE WHAT IT READS IS OF BULK AT MOST 1048576: true; the input reads as it did. -/
def ringEitherUptoRow : OpenClaim := { program := "ytobdaaoefbgilaa", sum := "6b14868fb266b6b6842ff05587598859241afb23be40fa08b1e4e4c57863181f", func := "minikin/minikinlaw08.RingEither", spec := "ringEither", unfollowed := true, recurses := true, apart := false, narrowed := true }
def RingEitherUptoSaid : Prop := ringEitherUptoRow.holds Try.pinned (OpenSpec.upto ringEitherSpec)

/-- 'minikinlaw08.RingJudges', WHERE WHAT IT READS IS OF BULK AT MOST 1048576: true; the input reads as it did. -/
def ringJudgesUptoRow : OpenClaim := { program := "ytobdaaoefbgilaa", sum := "6b14868fb266b6b6842ff05587598859241afb23be40fa08b1e4e4c57863181f", func := "minikin/minikinlaw08.RingJudges", spec := "ringJudges", unfollowed := true, recurses := true, apart := false, narrowed := true }
def RingJudgesUptoSaid : Prop := ringJudgesUptoRow.holds Try.pinned (OpenSpec.upto ringJudgesSpec)

/-- 'minikinlaw08.RingChecks', WHERE WHAT IT READS IS OF BULK AT MOST 1048576: true; the input reads as it did. -/
def ringChecksUptoRow : OpenClaim := { program := "ytobdaaoefbgilaa", sum := "6b14868fb266b6b6842ff05587598859241afb23be40fa08b1e4e4c57863181f", func := "minikin/minikinlaw08.RingChecks", spec := "ringChecks", unfollowed := true, recurses := true, apart := false, narrowed := true }
def RingChecksUptoSaid : Prop := ringChecksUptoRow.holds Try.pinned (OpenSpec.upto ringChecksSpec)

end Rows
end Go.Proofs.Ytobdaaoefbgilaa
