/-
  No cell of these rows narrows 'for every input' (looked for: loops, veiled, ifaces, maps, wideKeys, modest, calm, conditions, laid).
  DERIVED. THE GIVEN ROWS OF THIS SEAT. 9 by the template 'for every input the law returns true; each argument reads behind the call as it read before'; 0 by the template 'total and deterministic' (their statements: YtpnikgfpcgaboaaTotals.lean).
  GIVEN WITH THE SEED: the statements are not yours to turn. If you find one false, say at which input.
  Laid BY PROGRAM, IN A SANDBOX (cutbox-rows.mjs): the forced cells as the released guide's own fill.sh prints them over the translation 0062eb58088b2501… (all of the seat's roots in one cut). By AI agents, Wed Nov 11 2026. No macro, syntax, notation, axiom, sorry.
-/
import Derived.Test.YtpnikgfpcgaboaaChecked
import GoSem.Claim
import GoSem.ClaimJoined
import GoSem.ClaimMapViews
import Derived.JoinedTies
import Derived.KernelRfl
namespace Go.Proofs.Ytpnikgfpcgaboaa
/- THE CELL 'sum', in the pinned program and in every row, IS THE sha256 OF THE DUMP (.gsa) THAT YtpnikgfpcgaboaaProg.lean LOADS. Nothing in Lean hashes anything: it is a label: what it is worth is what the hold of that sum in a sandbox is worth. -/
noncomputable def Try.pinned : Pinned := { name := "ytpnikgfpcgaboaa", sum := "0062eb58088b25015433a23eed4ac90b2bd54bece357ff2d2849c5b66234b874", checked := Try.checked }
namespace Rows
def none {H : Type} : Left H := { results := [], args := [] }

/-- 'minikinlaw03.FlowSums': WHATEVER THE INPUT: true; the input reads as it did. -/
def flowSumsSpec : ChangeSpec := { name := "flowSums", fn := fun _ => fun
  | [d1, d2, d3] => { results := [.lit (.bool true)], args := [d1, d2, d3] }
  | _ => none }
def flowSumsRow : OpenClaim := { program := "ytpnikgfpcgaboaa", sum := "0062eb58088b25015433a23eed4ac90b2bd54bece357ff2d2849c5b66234b874", func := "minikin/minikinlaw03.FlowSums", spec := "flowSums", unfollowed := true, recurses := true, apart := false }
def FlowSumsSaid : Prop := flowSumsRow.holds Try.pinned (OpenSpec.ofChange flowSumsSpec)

/-- ITS FALSE NEIGHBOUR: 'it returns false'. Refute it at one input. -/
def flowSumsWrong : ChangeSpec := { name := "flowSums", fn := fun _ => fun
  | [d1, d2, d3] => { results := [.lit (.bool false)], args := [d1, d2, d3] }
  | _ => none }
def FlowSumsWrongFalsely : Prop := flowSumsRow.holds Try.pinned (OpenSpec.ofChange flowSumsWrong)

/-- 'minikinlaw03.FlowMost': WHATEVER THE INPUT: true; the input reads as it did. -/
def flowMostSpec : ChangeSpec := { name := "flowMost", fn := fun _ => fun
  | [d1, d2] => { results := [.lit (.bool true)], args := [d1, d2] }
  | _ => none }
def flowMostRow : OpenClaim := { program := "ytpnikgfpcgaboaa", sum := "0062eb58088b25015433a23eed4ac90b2bd54bece357ff2d2849c5b66234b874", func := "minikin/minikinlaw03.FlowMost", spec := "flowMost", unfollowed := true, recurses := true, apart := false }
def FlowMostSaid : Prop := flowMostRow.holds Try.pinned (OpenSpec.ofChange flowMostSpec)

/-- ITS FALSE NEIGHBOUR: 'it returns false'. Refute it at one input. -/
def flowMostWrong : ChangeSpec := { name := "flowMost", fn := fun _ => fun
  | [d1, d2] => { results := [.lit (.bool false)], args := [d1, d2] }
  | _ => none }
def FlowMostWrongFalsely : Prop := flowMostRow.holds Try.pinned (OpenSpec.ofChange flowMostWrong)

/-- 'minikinlaw03.FlowJudges': WHATEVER THE INPUT: true; the input reads as it did. -/
def flowJudgesSpec : ChangeSpec := { name := "flowJudges", fn := fun _ => fun
  | [d1, d2, d3] => { results := [.lit (.bool true)], args := [d1, d2, d3] }
  | _ => none }
def flowJudgesRow : OpenClaim := { program := "ytpnikgfpcgaboaa", sum := "0062eb58088b25015433a23eed4ac90b2bd54bece357ff2d2849c5b66234b874", func := "minikin/minikinlaw03.FlowJudges", spec := "flowJudges", unfollowed := true, recurses := true, apart := false }
def FlowJudgesSaid : Prop := flowJudgesRow.holds Try.pinned (OpenSpec.ofChange flowJudgesSpec)

/-- ITS FALSE NEIGHBOUR: 'it returns false'. Refute it at one input. -/
def flowJudgesWrong : ChangeSpec := { name := "flowJudges", fn := fun _ => fun
  | [d1, d2, d3] => { results := [.lit (.bool false)], args := [d1, d2, d3] }
  | _ => none }
def FlowJudgesWrongFalsely : Prop := flowJudgesRow.holds Try.pinned (OpenSpec.ofChange flowJudgesWrong)

/-- 'minikinlaw03.FlowEither': WHATEVER THE INPUT: true; the input reads as it did. -/
def flowEitherSpec : ChangeSpec := { name := "flowEither", fn := fun _ => fun
  | [d1, d2, d3] => { results := [.lit (.bool true)], args := [d1, d2, d3] }
  | _ => none }
def flowEitherRow : OpenClaim := { program := "ytpnikgfpcgaboaa", sum := "0062eb58088b25015433a23eed4ac90b2bd54bece357ff2d2849c5b66234b874", func := "minikin/minikinlaw03.FlowEither", spec := "flowEither", unfollowed := true, recurses := true, apart := false }
def FlowEitherSaid : Prop := flowEitherRow.holds Try.pinned (OpenSpec.ofChange flowEitherSpec)

/-- ITS FALSE NEIGHBOUR: 'it returns false'. Refute it at one input. -/
def flowEitherWrong : ChangeSpec := { name := "flowEither", fn := fun _ => fun
  | [d1, d2, d3] => { results := [.lit (.bool false)], args := [d1, d2, d3] }
  | _ => none }
def FlowEitherWrongFalsely : Prop := flowEitherRow.holds Try.pinned (OpenSpec.ofChange flowEitherWrong)

/-- 'minikinlaw03.FlowApart': WHATEVER THE INPUT: true; the input reads as it did. -/
def flowApartSpec : ChangeSpec := { name := "flowApart", fn := fun _ => fun
  | [d1, d2, d3] => { results := [.lit (.bool true)], args := [d1, d2, d3] }
  | _ => none }
def flowApartRow : OpenClaim := { program := "ytpnikgfpcgaboaa", sum := "0062eb58088b25015433a23eed4ac90b2bd54bece357ff2d2849c5b66234b874", func := "minikin/minikinlaw03.FlowApart", spec := "flowApart", unfollowed := true, recurses := true, apart := false }
def FlowApartSaid : Prop := flowApartRow.holds Try.pinned (OpenSpec.ofChange flowApartSpec)

/-- ITS FALSE NEIGHBOUR: 'it returns false'. Refute it at one input. -/
def flowApartWrong : ChangeSpec := { name := "flowApart", fn := fun _ => fun
  | [d1, d2, d3] => { results := [.lit (.bool false)], args := [d1, d2, d3] }
  | _ => none }
def FlowApartWrongFalsely : Prop := flowApartRow.holds Try.pinned (OpenSpec.ofChange flowApartWrong)

/-- 'minikinlaw03.FlowBranches': WHATEVER THE INPUT: true; the input reads as it did. -/
def flowBranchesSpec : ChangeSpec := { name := "flowBranches", fn := fun _ => fun
  | [d1, d2, d3] => { results := [.lit (.bool true)], args := [d1, d2, d3] }
  | _ => none }
def flowBranchesRow : OpenClaim := { program := "ytpnikgfpcgaboaa", sum := "0062eb58088b25015433a23eed4ac90b2bd54bece357ff2d2849c5b66234b874", func := "minikin/minikinlaw03.FlowBranches", spec := "flowBranches", unfollowed := true, recurses := true, apart := false }
def FlowBranchesSaid : Prop := flowBranchesRow.holds Try.pinned (OpenSpec.ofChange flowBranchesSpec)

/-- ITS FALSE NEIGHBOUR: 'it returns false'. Refute it at one input. -/
def flowBranchesWrong : ChangeSpec := { name := "flowBranches", fn := fun _ => fun
  | [d1, d2, d3] => { results := [.lit (.bool false)], args := [d1, d2, d3] }
  | _ => none }
def FlowBranchesWrongFalsely : Prop := flowBranchesRow.holds Try.pinned (OpenSpec.ofChange flowBranchesWrong)

/-- 'minikinlaw03.FlowPairs': WHATEVER THE INPUT: true; the input reads as it did. -/
def flowPairsSpec : ChangeSpec := { name := "flowPairs", fn := fun _ => fun
  | [d] => { results := [.lit (.bool true)], args := [d] }
  | _ => none }
def flowPairsRow : OpenClaim := { program := "ytpnikgfpcgaboaa", sum := "0062eb58088b25015433a23eed4ac90b2bd54bece357ff2d2849c5b66234b874", func := "minikin/minikinlaw03.FlowPairs", spec := "flowPairs", unfollowed := true, recurses := true, apart := false }
def FlowPairsSaid : Prop := flowPairsRow.holds Try.pinned (OpenSpec.ofChange flowPairsSpec)

/-- ITS FALSE NEIGHBOUR: 'it returns false'. Refute it at one input. -/
def flowPairsWrong : ChangeSpec := { name := "flowPairs", fn := fun _ => fun
  | [d] => { results := [.lit (.bool false)], args := [d] }
  | _ => none }
def FlowPairsWrongFalsely : Prop := flowPairsRow.holds Try.pinned (OpenSpec.ofChange flowPairsWrong)

/-- 'minikinlaw03.FlowTrees': WHATEVER THE INPUT: true; the input reads as it did. -/
def flowTreesSpec : ChangeSpec := { name := "flowTrees", fn := fun _ => fun
  | [d1, d2] => { results := [.lit (.bool true)], args := [d1, d2] }
  | _ => none }
def flowTreesRow : OpenClaim := { program := "ytpnikgfpcgaboaa", sum := "0062eb58088b25015433a23eed4ac90b2bd54bece357ff2d2849c5b66234b874", func := "minikin/minikinlaw03.FlowTrees", spec := "flowTrees", unfollowed := true, recurses := true, apart := false }
def FlowTreesSaid : Prop := flowTreesRow.holds Try.pinned (OpenSpec.ofChange flowTreesSpec)

/-- ITS FALSE NEIGHBOUR: 'it returns false'. Refute it at one input. -/
def flowTreesWrong : ChangeSpec := { name := "flowTrees", fn := fun _ => fun
  | [d1, d2] => { results := [.lit (.bool false)], args := [d1, d2] }
  | _ => none }
def FlowTreesWrongFalsely : Prop := flowTreesRow.holds Try.pinned (OpenSpec.ofChange flowTreesWrong)

/-- 'minikinlaw03.FlowChecks': WHATEVER THE INPUT: true; the input reads as it did. -/
def flowChecksSpec : ChangeSpec := { name := "flowChecks", fn := fun _ => fun
  | [d1, d2, d3] => { results := [.lit (.bool true)], args := [d1, d2, d3] }
  | _ => none }
def flowChecksRow : OpenClaim := { program := "ytpnikgfpcgaboaa", sum := "0062eb58088b25015433a23eed4ac90b2bd54bece357ff2d2849c5b66234b874", func := "minikin/minikinlaw03.FlowChecks", spec := "flowChecks", unfollowed := true, recurses := true, apart := false }
def FlowChecksSaid : Prop := flowChecksRow.holds Try.pinned (OpenSpec.ofChange flowChecksSpec)

/-- ITS FALSE NEIGHBOUR: 'it returns false'. Refute it at one input. -/
def flowChecksWrong : ChangeSpec := { name := "flowChecks", fn := fun _ => fun
  | [d1, d2, d3] => { results := [.lit (.bool false)], args := [d1, d2, d3] }
  | _ => none }
def FlowChecksWrongFalsely : Prop := flowChecksRow.holds Try.pinned (OpenSpec.ofChange flowChecksWrong)

/- THE SECOND FORM. 'bulk': how many values and letters a reading holds, each counted each time it is reached (what is shared counts as often as it is met; a slice's spare places count too). A statement '..UptoSaid' is the law's where the arguments, and the package variables that the reading takes, are together of bulk at most 1048576: NARROWER than '..Said'. Prove '..Said' where nothing that the law and all that it calls make is longer than what came in: it says more and counts as full. Else prove '..UptoSaid'. A law counts once. -/
mutual
def uptoBulk {H : Type} : DataW H → Nat
  | .lit (.string bytes) => bytes.length + 1
  | .lit _ => 1
  | .nil => 1
  | .ptr d => uptoBulk d + 1
  | .slice elems spare => uptoBulkAll elems + uptoBulkAll spare + 1
  | .agg parts => uptoBulkAll parts + 1
  | .iface _ d => uptoBulk d + 1
  | .map entries => uptoBulkEntries entries + 1
  | .held _ => 1
def uptoBulkAll {H : Type} : List (DataW H) → Nat
  | [] => 0
  | d :: r => uptoBulk d + uptoBulkAll r
def uptoBulkEntries {H : Type} : List (Lit × DataW H) → Nat
  | [] => 0
  | x :: r => uptoBulkEntry x + uptoBulkEntries r
def uptoBulkEntry {H : Type} : Lit × DataW H → Nat
  | (.string bytes, d) => bytes.length + uptoBulk d + 1
  | (_, d) => uptoBulk d + 1
 end
def uptoSmall : (H : Type) → List (DataW H) → Bool := fun _ ds => decide (uptoBulkAll ds ≤ 1048576)
def OpenSpec.upto (s : _root_.Go.ChangeSpec) : _root_.Go.OpenSpec := { _root_.Go.OpenSpec.ofChange s with cond := some uptoSmall }

/-- 'minikinlaw03.FlowSums', WHERE WHAT IT READS IS OF BULK AT MOST 1048576: true; the input reads as it did. -/
def flowSumsUptoRow : OpenClaim := { program := "ytpnikgfpcgaboaa", sum := "0062eb58088b25015433a23eed4ac90b2bd54bece357ff2d2849c5b66234b874", func := "minikin/minikinlaw03.FlowSums", spec := "flowSums", unfollowed := true, recurses := true, apart := false, narrowed := true }
def FlowSumsUptoSaid : Prop := flowSumsUptoRow.holds Try.pinned (OpenSpec.upto flowSumsSpec)

/-- 'minikinlaw03.FlowMost', WHERE WHAT IT READS IS OF BULK AT MOST 1048576: true; the input reads as it did. -/
def flowMostUptoRow : OpenClaim := { program := "ytpnikgfpcgaboaa", sum := "0062eb58088b25015433a23eed4ac90b2bd54bece357ff2d2849c5b66234b874", func := "minikin/minikinlaw03.FlowMost", spec := "flowMost", unfollowed := true, recurses := true, apart := false, narrowed := true }
def FlowMostUptoSaid : Prop := flowMostUptoRow.holds Try.pinned (OpenSpec.upto flowMostSpec)

/-- 'minikinlaw03.FlowJudges', WHERE WHAT IT READS IS OF BULK AT MOST 1048576: true; the input reads as it did. -/
def flowJudgesUptoRow : OpenClaim := { program := "ytpnikgfpcgaboaa", sum := "0062eb58088b25015433a23eed4ac90b2bd54bece357ff2d2849c5b66234b874", func := "minikin/minikinlaw03.FlowJudges", spec := "flowJudges", unfollowed := true, recurses := true, apart := false, narrowed := true }
def FlowJudgesUptoSaid : Prop := flowJudgesUptoRow.holds Try.pinned (OpenSpec.upto flowJudgesSpec)

/-- 'minikinlaw03.FlowEither', WHERE WHAT IT READS IS OF BULK AT MOST 1048576: true; the input reads as it did. -/
def flowEitherUptoRow : OpenClaim := { program := "ytpnikgfpcgaboaa", sum := "0062eb58088b25015433a23eed4ac90b2bd54bece357ff2d2849c5b66234b874", func := "minikin/minikinlaw03.FlowEither", spec := "flowEither", unfollowed := true, recurses := true, apart := false, narrowed := true }
def FlowEitherUptoSaid : Prop := flowEitherUptoRow.holds Try.pinned (OpenSpec.upto flowEitherSpec)

/-- 'minikinlaw03.FlowApart', WHERE WHAT IT READS IS OF BULK AT MOST 1048576: true; the input reads as it did. -/
def flowApartUptoRow : OpenClaim := { program := "ytpnikgfpcgaboaa", sum := "0062eb58088b25015433a23eed4ac90b2bd54bece357ff2d2849c5b66234b874", func := "minikin/minikinlaw03.FlowApart", spec := "flowApart", unfollowed := true, recurses := true, apart := false, narrowed := true }
def FlowApartUptoSaid : Prop := flowApartUptoRow.holds Try.pinned (OpenSpec.upto flowApartSpec)

/-- 'minikinlaw03.FlowBranches', WHERE WHAT IT READS IS OF BULK AT MOST 1048576: true; the input reads as it did. -/
def flowBranchesUptoRow : OpenClaim := { program := "ytpnikgfpcgaboaa", sum := "0062eb58088b25015433a23eed4ac90b2bd54bece357ff2d2849c5b66234b874", func := "minikin/minikinlaw03.FlowBranches", spec := "flowBranches", unfollowed := true, recurses := true, apart := false, narrowed := true }
def FlowBranchesUptoSaid : Prop := flowBranchesUptoRow.holds Try.pinned (OpenSpec.upto flowBranchesSpec)

/-- 'minikinlaw03.FlowPairs', WHERE WHAT IT READS IS OF BULK AT MOST 1048576: true; the input reads as it did. -/
def flowPairsUptoRow : OpenClaim := { program := "ytpnikgfpcgaboaa", sum := "0062eb58088b25015433a23eed4ac90b2bd54bece357ff2d2849c5b66234b874", func := "minikin/minikinlaw03.FlowPairs", spec := "flowPairs", unfollowed := true, recurses := true, apart := false, narrowed := true }
def FlowPairsUptoSaid : Prop := flowPairsUptoRow.holds Try.pinned (OpenSpec.upto flowPairsSpec)

/-- 'minikinlaw03.FlowTrees', WHERE WHAT IT READS IS OF BULK AT MOST 1048576: true; the input reads as it did. -/
def flowTreesUptoRow : OpenClaim := { program := "ytpnikgfpcgaboaa", sum := "0062eb58088b25015433a23eed4ac90b2bd54bece357ff2d2849c5b66234b874", func := "minikin/minikinlaw03.FlowTrees", spec := "flowTrees", unfollowed := true, recurses := true, apart := false, narrowed := true }
def FlowTreesUptoSaid : Prop := flowTreesUptoRow.holds Try.pinned (OpenSpec.upto flowTreesSpec)

/-- 'minikinlaw03.FlowChecks', WHERE WHAT IT READS IS OF BULK AT MOST 1048576: true; the input reads as it did. -/
def flowChecksUptoRow : OpenClaim := { program := "ytpnikgfpcgaboaa", sum := "0062eb58088b25015433a23eed4ac90b2bd54bece357ff2d2849c5b66234b874", func := "minikin/minikinlaw03.FlowChecks", spec := "flowChecks", unfollowed := true, recurses := true, apart := false, narrowed := true }
def FlowChecksUptoSaid : Prop := flowChecksUptoRow.holds Try.pinned (OpenSpec.upto flowChecksSpec)

end Rows
end Go.Proofs.Ytpnikgfpcgaboaa
