/-
  No cell of these rows narrows 'for every input' (looked for: loops, veiled, ifaces, maps, wideKeys, modest, calm, conditions, laid).
  DERIVED. THE GIVEN ROWS OF THIS SEAT. 12 by the template 'for every input the law returns true; each argument reads behind the call as it read before'; 0 by the template 'total and deterministic' (their statements: YtobhipohnjmnhaaTotals.lean).
  GIVEN WITH THE SEED: the statements are not yours to turn. If you find one false, say at which input.
  Laid BY PROGRAM, IN A SANDBOX (cutbox-rows.mjs): the forced cells as the released guide's own fill.sh prints them over the translation 6265c64eab2fe423… (all of the seat's roots in one cut). By AI agents, Wed Nov 11 2026. No macro, syntax, notation, axiom, sorry.
-/
import Derived.Test.YtobhipohnjmnhaaChecked
import GoSem.Claim
import GoSem.ClaimJoined
import GoSem.ClaimMapViews
import Derived.JoinedTies
import Derived.KernelRfl
namespace Go.Proofs.Ytobhipohnjmnhaa
/- THE CELL 'sum', in the pinned program and in every row, IS THE sha256 OF THE DUMP (.gsa) THAT YtobhipohnjmnhaaProg.lean LOADS. Nothing in Lean hashes anything: it is a label: what it is worth is what the hold of that sum in a sandbox is worth. -/
noncomputable def Try.pinned : Pinned := { name := "ytobhipohnjmnhaa", sum := "6265c64eab2fe423272f7378a735484f8be98021d30bdb98aa3015677e6036ae", checked := Try.checked }
namespace Rows
def none {H : Type} : Left H := { results := [], args := [] }

/-- 'minikinlaw02.WordCounts': WHATEVER THE INPUT: true; the input reads as it did. -/
def wordCountsSpec : ChangeSpec := { name := "wordCounts", fn := fun _ => fun
  | [d1, d2, d3] => { results := [.lit (.bool true)], args := [d1, d2, d3] }
  | _ => none }
def wordCountsRow : OpenClaim := { program := "ytobhipohnjmnhaa", sum := "6265c64eab2fe423272f7378a735484f8be98021d30bdb98aa3015677e6036ae", func := "minikin/minikinlaw02.WordCounts", spec := "wordCounts", inPlace := ["internal/abi.NoEscape"], unfollowed := true, recurses := true, plainKeys := false, apart := false }
def WordCountsSaid : Prop := wordCountsRow.holds Try.pinned (OpenSpec.ofChange wordCountsSpec)

/-- ITS FALSE NEIGHBOUR: 'it returns false'. Refute it at one input. -/
def wordCountsWrong : ChangeSpec := { name := "wordCounts", fn := fun _ => fun
  | [d1, d2, d3] => { results := [.lit (.bool false)], args := [d1, d2, d3] }
  | _ => none }
def WordCountsWrongFalsely : Prop := wordCountsRow.holds Try.pinned (OpenSpec.ofChange wordCountsWrong)

/-- 'minikinlaw02.WordLeasts': WHATEVER THE INPUT: true; the input reads as it did. -/
def wordLeastsSpec : ChangeSpec := { name := "wordLeasts", fn := fun _ => fun
  | [d] => { results := [.lit (.bool true)], args := [d] }
  | _ => none }
def wordLeastsRow : OpenClaim := { program := "ytobhipohnjmnhaa", sum := "6265c64eab2fe423272f7378a735484f8be98021d30bdb98aa3015677e6036ae", func := "minikin/minikinlaw02.WordLeasts", spec := "wordLeasts", inPlace := ["internal/abi.NoEscape"], unfollowed := true, recurses := true, plainKeys := false, apart := false }
def WordLeastsSaid : Prop := wordLeastsRow.holds Try.pinned (OpenSpec.ofChange wordLeastsSpec)

/-- ITS FALSE NEIGHBOUR: 'it returns false'. Refute it at one input. -/
def wordLeastsWrong : ChangeSpec := { name := "wordLeasts", fn := fun _ => fun
  | [d] => { results := [.lit (.bool false)], args := [d] }
  | _ => none }
def WordLeastsWrongFalsely : Prop := wordLeastsRow.holds Try.pinned (OpenSpec.ofChange wordLeastsWrong)

/-- 'minikinlaw02.WordAccepts': WHATEVER THE INPUT: true; the input reads as it did. -/
def wordAcceptsSpec : ChangeSpec := { name := "wordAccepts", fn := fun _ => fun
  | [d1, d2] => { results := [.lit (.bool true)], args := [d1, d2] }
  | _ => none }
def wordAcceptsRow : OpenClaim := { program := "ytobhipohnjmnhaa", sum := "6265c64eab2fe423272f7378a735484f8be98021d30bdb98aa3015677e6036ae", func := "minikin/minikinlaw02.WordAccepts", spec := "wordAccepts", inPlace := ["internal/abi.NoEscape"], unfollowed := true, recurses := true, plainKeys := false, apart := false }
def WordAcceptsSaid : Prop := wordAcceptsRow.holds Try.pinned (OpenSpec.ofChange wordAcceptsSpec)

/-- ITS FALSE NEIGHBOUR: 'it returns false'. Refute it at one input. -/
def wordAcceptsWrong : ChangeSpec := { name := "wordAccepts", fn := fun _ => fun
  | [d1, d2] => { results := [.lit (.bool false)], args := [d1, d2] }
  | _ => none }
def WordAcceptsWrongFalsely : Prop := wordAcceptsRow.holds Try.pinned (OpenSpec.ofChange wordAcceptsWrong)

/-- 'minikinlaw02.WordDiffers': WHATEVER THE INPUT: true; the input reads as it did. -/
def wordDiffersSpec : ChangeSpec := { name := "wordDiffers", fn := fun _ => fun
  | [d1, d2, d3] => { results := [.lit (.bool true)], args := [d1, d2, d3] }
  | _ => none }
def wordDiffersRow : OpenClaim := { program := "ytobhipohnjmnhaa", sum := "6265c64eab2fe423272f7378a735484f8be98021d30bdb98aa3015677e6036ae", func := "minikin/minikinlaw02.WordDiffers", spec := "wordDiffers", inPlace := ["internal/abi.NoEscape"], unfollowed := true, recurses := true, plainKeys := false, apart := false }
def WordDiffersSaid : Prop := wordDiffersRow.holds Try.pinned (OpenSpec.ofChange wordDiffersSpec)

/-- ITS FALSE NEIGHBOUR: 'it returns false'. Refute it at one input. -/
def wordDiffersWrong : ChangeSpec := { name := "wordDiffers", fn := fun _ => fun
  | [d1, d2, d3] => { results := [.lit (.bool false)], args := [d1, d2, d3] }
  | _ => none }
def WordDiffersWrongFalsely : Prop := wordDiffersRow.holds Try.pinned (OpenSpec.ofChange wordDiffersWrong)

/-- 'minikinlaw02.WordSets': WHATEVER THE INPUT: true; the input reads as it did. -/
def wordSetsSpec : ChangeSpec := { name := "wordSets", fn := fun _ => fun
  | [d1, d2, d3] => { results := [.lit (.bool true)], args := [d1, d2, d3] }
  | _ => none }
def wordSetsRow : OpenClaim := { program := "ytobhipohnjmnhaa", sum := "6265c64eab2fe423272f7378a735484f8be98021d30bdb98aa3015677e6036ae", func := "minikin/minikinlaw02.WordSets", spec := "wordSets", inPlace := ["internal/abi.NoEscape"], unfollowed := true, recurses := true, plainKeys := false, apart := false }
def WordSetsSaid : Prop := wordSetsRow.holds Try.pinned (OpenSpec.ofChange wordSetsSpec)

/-- ITS FALSE NEIGHBOUR: 'it returns false'. Refute it at one input. -/
def wordSetsWrong : ChangeSpec := { name := "wordSets", fn := fun _ => fun
  | [d1, d2, d3] => { results := [.lit (.bool false)], args := [d1, d2, d3] }
  | _ => none }
def WordSetsWrongFalsely : Prop := wordSetsRow.holds Try.pinned (OpenSpec.ofChange wordSetsWrong)

/-- 'minikinlaw02.WordGroups': WHATEVER THE INPUT: true; the input reads as it did. -/
def wordGroupsSpec : ChangeSpec := { name := "wordGroups", fn := fun _ => fun
  | [d1, d2, d3] => { results := [.lit (.bool true)], args := [d1, d2, d3] }
  | _ => none }
def wordGroupsRow : OpenClaim := { program := "ytobhipohnjmnhaa", sum := "6265c64eab2fe423272f7378a735484f8be98021d30bdb98aa3015677e6036ae", func := "minikin/minikinlaw02.WordGroups", spec := "wordGroups", inPlace := ["internal/abi.NoEscape"], unfollowed := true, recurses := true, plainKeys := false, apart := false }
def WordGroupsSaid : Prop := wordGroupsRow.holds Try.pinned (OpenSpec.ofChange wordGroupsSpec)

/-- ITS FALSE NEIGHBOUR: 'it returns false'. Refute it at one input. -/
def wordGroupsWrong : ChangeSpec := { name := "wordGroups", fn := fun _ => fun
  | [d1, d2, d3] => { results := [.lit (.bool false)], args := [d1, d2, d3] }
  | _ => none }
def WordGroupsWrongFalsely : Prop := wordGroupsRow.holds Try.pinned (OpenSpec.ofChange wordGroupsWrong)

/-- 'minikinlaw02.WordLimits': WHATEVER THE INPUT: true; the input reads as it did. -/
def wordLimitsSpec : ChangeSpec := { name := "wordLimits", fn := fun _ => fun
  | [d1, d2] => { results := [.lit (.bool true)], args := [d1, d2] }
  | _ => none }
def wordLimitsRow : OpenClaim := { program := "ytobhipohnjmnhaa", sum := "6265c64eab2fe423272f7378a735484f8be98021d30bdb98aa3015677e6036ae", func := "minikin/minikinlaw02.WordLimits", spec := "wordLimits", inPlace := ["internal/abi.NoEscape"], unfollowed := true, recurses := true, plainKeys := false, apart := false }
def WordLimitsSaid : Prop := wordLimitsRow.holds Try.pinned (OpenSpec.ofChange wordLimitsSpec)

/-- ITS FALSE NEIGHBOUR: 'it returns false'. Refute it at one input. -/
def wordLimitsWrong : ChangeSpec := { name := "wordLimits", fn := fun _ => fun
  | [d1, d2] => { results := [.lit (.bool false)], args := [d1, d2] }
  | _ => none }
def WordLimitsWrongFalsely : Prop := wordLimitsRow.holds Try.pinned (OpenSpec.ofChange wordLimitsWrong)

/-- 'minikinlaw02.WordNerode': WHATEVER THE INPUT: true; the input reads as it did. -/
def wordNerodeSpec : ChangeSpec := { name := "wordNerode", fn := fun _ => fun
  | [d1, d2] => { results := [.lit (.bool true)], args := [d1, d2] }
  | _ => none }
def wordNerodeRow : OpenClaim := { program := "ytobhipohnjmnhaa", sum := "6265c64eab2fe423272f7378a735484f8be98021d30bdb98aa3015677e6036ae", func := "minikin/minikinlaw02.WordNerode", spec := "wordNerode", inPlace := ["internal/abi.NoEscape"], unfollowed := true, recurses := true, plainKeys := false, apart := false }
def WordNerodeSaid : Prop := wordNerodeRow.holds Try.pinned (OpenSpec.ofChange wordNerodeSpec)

/-- ITS FALSE NEIGHBOUR: 'it returns false'. Refute it at one input. -/
def wordNerodeWrong : ChangeSpec := { name := "wordNerode", fn := fun _ => fun
  | [d1, d2] => { results := [.lit (.bool false)], args := [d1, d2] }
  | _ => none }
def WordNerodeWrongFalsely : Prop := wordNerodeRow.holds Try.pinned (OpenSpec.ofChange wordNerodeWrong)

/-- 'minikinlaw02.WordTurns': WHATEVER THE INPUT: true; the input reads as it did. -/
def wordTurnsSpec : ChangeSpec := { name := "wordTurns", fn := fun _ => fun
  | [d1, d2] => { results := [.lit (.bool true)], args := [d1, d2] }
  | _ => none }
def wordTurnsRow : OpenClaim := { program := "ytobhipohnjmnhaa", sum := "6265c64eab2fe423272f7378a735484f8be98021d30bdb98aa3015677e6036ae", func := "minikin/minikinlaw02.WordTurns", spec := "wordTurns", inPlace := ["internal/abi.NoEscape"], unfollowed := true, recurses := true, plainKeys := false, apart := false }
def WordTurnsSaid : Prop := wordTurnsRow.holds Try.pinned (OpenSpec.ofChange wordTurnsSpec)

/-- ITS FALSE NEIGHBOUR: 'it returns false'. Refute it at one input. -/
def wordTurnsWrong : ChangeSpec := { name := "wordTurns", fn := fun _ => fun
  | [d1, d2] => { results := [.lit (.bool false)], args := [d1, d2] }
  | _ => none }
def WordTurnsWrongFalsely : Prop := wordTurnsRow.holds Try.pinned (OpenSpec.ofChange wordTurnsWrong)

/-- 'minikinlaw02.WordMakes': WHATEVER THE INPUT: true; the input reads as it did. -/
def wordMakesSpec : ChangeSpec := { name := "wordMakes", fn := fun _ => fun
  | [d1, d2] => { results := [.lit (.bool true)], args := [d1, d2] }
  | _ => none }
def wordMakesRow : OpenClaim := { program := "ytobhipohnjmnhaa", sum := "6265c64eab2fe423272f7378a735484f8be98021d30bdb98aa3015677e6036ae", func := "minikin/minikinlaw02.WordMakes", spec := "wordMakes", inPlace := ["internal/abi.NoEscape"], unfollowed := true, recurses := true, plainKeys := false, apart := false }
def WordMakesSaid : Prop := wordMakesRow.holds Try.pinned (OpenSpec.ofChange wordMakesSpec)

/-- ITS FALSE NEIGHBOUR: 'it returns false'. Refute it at one input. -/
def wordMakesWrong : ChangeSpec := { name := "wordMakes", fn := fun _ => fun
  | [d1, d2] => { results := [.lit (.bool false)], args := [d1, d2] }
  | _ => none }
def WordMakesWrongFalsely : Prop := wordMakesRow.holds Try.pinned (OpenSpec.ofChange wordMakesWrong)

/-- 'minikinlaw02.WordLearns': WHATEVER THE INPUT: true; the input reads as it did. -/
def wordLearnsSpec : ChangeSpec := { name := "wordLearns", fn := fun _ => fun
  | [d1, d2, d3] => { results := [.lit (.bool true)], args := [d1, d2, d3] }
  | _ => none }
def wordLearnsRow : OpenClaim := { program := "ytobhipohnjmnhaa", sum := "6265c64eab2fe423272f7378a735484f8be98021d30bdb98aa3015677e6036ae", func := "minikin/minikinlaw02.WordLearns", spec := "wordLearns", inPlace := ["internal/abi.NoEscape"], unfollowed := true, recurses := true, plainKeys := false, apart := false }
def WordLearnsSaid : Prop := wordLearnsRow.holds Try.pinned (OpenSpec.ofChange wordLearnsSpec)

/-- ITS FALSE NEIGHBOUR: 'it returns false'. Refute it at one input. -/
def wordLearnsWrong : ChangeSpec := { name := "wordLearns", fn := fun _ => fun
  | [d1, d2, d3] => { results := [.lit (.bool false)], args := [d1, d2, d3] }
  | _ => none }
def WordLearnsWrongFalsely : Prop := wordLearnsRow.holds Try.pinned (OpenSpec.ofChange wordLearnsWrong)

/-- 'minikinlaw02.WordChecks': WHATEVER THE INPUT: true; the input reads as it did. -/
def wordChecksSpec : ChangeSpec := { name := "wordChecks", fn := fun _ => fun
  | [d1, d2] => { results := [.lit (.bool true)], args := [d1, d2] }
  | _ => none }
def wordChecksRow : OpenClaim := { program := "ytobhipohnjmnhaa", sum := "6265c64eab2fe423272f7378a735484f8be98021d30bdb98aa3015677e6036ae", func := "minikin/minikinlaw02.WordChecks", spec := "wordChecks", inPlace := ["internal/abi.NoEscape"], unfollowed := true, recurses := true, plainKeys := false, apart := false }
def WordChecksSaid : Prop := wordChecksRow.holds Try.pinned (OpenSpec.ofChange wordChecksSpec)

/-- ITS FALSE NEIGHBOUR: 'it returns false'. Refute it at one input. -/
def wordChecksWrong : ChangeSpec := { name := "wordChecks", fn := fun _ => fun
  | [d1, d2] => { results := [.lit (.bool false)], args := [d1, d2] }
  | _ => none }
def WordChecksWrongFalsely : Prop := wordChecksRow.holds Try.pinned (OpenSpec.ofChange wordChecksWrong)

/- THE SECOND FORM. 'bulk': how many values and letters a reading holds, each counted each time it is reached (what is shared counts as often as it is met; a slice's spare places count too). A statement '..UptoSaid' is the law's where the arguments, and the package variables that the reading takes, are together of bulk at most 1048576: NARROWER than '..Said'. Prove '..Said' where nothing that the law and all that it calls make is longer than what came in: it says more and counts as full. Else prove '..UptoSaid'. A law counts once. -/
mutual
def uptoBulk {H : Type} : DataW H → Nat
  | .lit (.string bytes) => bytes.length + 1
  | .lit _ => 1
  | .nil => 1
  | .ptr d => uptoBulk d + 1
  | .slice elems spare => uptoBulkAll elems + uptoBulkAll spare + 1
  | .agg parts => uptoBulkAll parts + 1
  | .iface _ d => uptoBulk d + 1
  | .map entries => uptoBulkEntries entries + 1
  | .held _ => 1
def uptoBulkAll {H : Type} : List (DataW H) → Nat
  | [] => 0
  | d :: r => uptoBulk d + uptoBulkAll r
def uptoBulkEntries {H : Type} : List (Lit × DataW H) → Nat
  | [] => 0
  | x :: r => uptoBulkEntry x + uptoBulkEntries r
def uptoBulkEntry {H : Type} : Lit × DataW H → Nat
  | (.string bytes, d) => bytes.length + uptoBulk d + 1
  | (_, d) => uptoBulk d + 1
 end
def uptoSmall : (H : Type) → List (DataW H) → Bool := fun _ ds => decide (uptoBulkAll ds ≤ 1048576)
def OpenSpec.upto (s : _root_.Go.ChangeSpec) : _root_.Go.OpenSpec := { _root_.Go.OpenSpec.ofChange s with cond := some uptoSmall }

/-- 'minikinlaw02.WordCounts', WHERE WHAT IT READS IS OF BULK AT MOST 1048576: true; the input reads as it did. -/
def wordCountsUptoRow : OpenClaim := { program := "ytobhipohnjmnhaa", sum := "6265c64eab2fe423272f7378a735484f8be98021d30bdb98aa3015677e6036ae", func := "minikin/minikinlaw02.WordCounts", spec := "wordCounts", inPlace := ["internal/abi.NoEscape"], unfollowed := true, recurses := true, plainKeys := false, apart := false, narrowed := true }
def WordCountsUptoSaid : Prop := wordCountsUptoRow.holds Try.pinned (OpenSpec.upto wordCountsSpec)

/-- 'minikinlaw02.WordLeasts', WHERE WHAT IT READS IS OF BULK AT MOST 1048576: true; the input reads as it did. -/
def wordLeastsUptoRow : OpenClaim := { program := "ytobhipohnjmnhaa", sum := "6265c64eab2fe423272f7378a735484f8be98021d30bdb98aa3015677e6036ae", func := "minikin/minikinlaw02.WordLeasts", spec := "wordLeasts", inPlace := ["internal/abi.NoEscape"], unfollowed := true, recurses := true, plainKeys := false, apart := false, narrowed := true }
def WordLeastsUptoSaid : Prop := wordLeastsUptoRow.holds Try.pinned (OpenSpec.upto wordLeastsSpec)

/-- 'minikinlaw02.WordAccepts', WHERE WHAT IT READS IS OF BULK AT MOST 1048576: true; the input reads as it did. -/
def wordAcceptsUptoRow : OpenClaim := { program := "ytobhipohnjmnhaa", sum := "6265c64eab2fe423272f7378a735484f8be98021d30bdb98aa3015677e6036ae", func := "minikin/minikinlaw02.WordAccepts", spec := "wordAccepts", inPlace := ["internal/abi.NoEscape"], unfollowed := true, recurses := true, plainKeys := false, apart := false, narrowed := true }
def WordAcceptsUptoSaid : Prop := wordAcceptsUptoRow.holds Try.pinned (OpenSpec.upto wordAcceptsSpec)

/-- 'minikinlaw02.WordDiffers', WHERE WHAT IT READS IS OF BULK AT MOST 1048576: true; the input reads as it did. -/
def wordDiffersUptoRow : OpenClaim := { program := "ytobhipohnjmnhaa", sum := "6265c64eab2fe423272f7378a735484f8be98021d30bdb98aa3015677e6036ae", func := "minikin/minikinlaw02.WordDiffers", spec := "wordDiffers", inPlace := ["internal/abi.NoEscape"], unfollowed := true, recurses := true, plainKeys := false, apart := false, narrowed := true }
def WordDiffersUptoSaid : Prop := wordDiffersUptoRow.holds Try.pinned (OpenSpec.upto wordDiffersSpec)

/-- 'minikinlaw02.WordSets', WHERE WHAT IT READS IS OF BULK AT MOST 1048576: true; the input reads as it did. -/
def wordSetsUptoRow : OpenClaim := { program := "ytobhipohnjmnhaa", sum := "6265c64eab2fe423272f7378a735484f8be98021d30bdb98aa3015677e6036ae", func := "minikin/minikinlaw02.WordSets", spec := "wordSets", inPlace := ["internal/abi.NoEscape"], unfollowed := true, recurses := true, plainKeys := false, apart := false, narrowed := true }
def WordSetsUptoSaid : Prop := wordSetsUptoRow.holds Try.pinned (OpenSpec.upto wordSetsSpec)

/-- 'minikinlaw02.WordGroups', WHERE WHAT IT READS IS OF BULK AT MOST 1048576: true; the input reads as it did. -/
def wordGroupsUptoRow : OpenClaim := { program := "ytobhipohnjmnhaa", sum := "6265c64eab2fe423272f7378a735484f8be98021d30bdb98aa3015677e6036ae", func := "minikin/minikinlaw02.WordGroups", spec := "wordGroups", inPlace := ["internal/abi.NoEscape"], unfollowed := true, recurses := true, plainKeys := false, apart := false, narrowed := true }
def WordGroupsUptoSaid : Prop := wordGroupsUptoRow.holds Try.pinned (OpenSpec.upto wordGroupsSpec)

/-- 'minikinlaw02.WordLimits', WHERE WHAT IT READS IS OF BULK AT MOST 1048576: true; the input reads as it did. -/
def wordLimitsUptoRow : OpenClaim := { program := "ytobhipohnjmnhaa", sum := "6265c64eab2fe423272f7378a735484f8be98021d30bdb98aa3015677e6036ae", func := "minikin/minikinlaw02.WordLimits", spec := "wordLimits", inPlace := ["internal/abi.NoEscape"], unfollowed := true, recurses := true, plainKeys := false, apart := false, narrowed := true }
def WordLimitsUptoSaid : Prop := wordLimitsUptoRow.holds Try.pinned (OpenSpec.upto wordLimitsSpec)

/-- 'minikinlaw02.WordNerode', WHERE WHAT IT READS IS OF BULK AT MOST 1048576: true; the input reads as it did. -/
def wordNerodeUptoRow : OpenClaim := { program := "ytobhipohnjmnhaa", sum := "6265c64eab2fe423272f7378a735484f8be98021d30bdb98aa3015677e6036ae", func := "minikin/minikinlaw02.WordNerode", spec := "wordNerode", inPlace := ["internal/abi.NoEscape"], unfollowed := true, recurses := true, plainKeys := false, apart := false, narrowed := true }
def WordNerodeUptoSaid : Prop := wordNerodeUptoRow.holds Try.pinned (OpenSpec.upto wordNerodeSpec)

/-- 'minikinlaw02.WordTurns', WHERE WHAT IT READS IS OF BULK AT MOST 1048576: true; the input reads as it did. -/
def wordTurnsUptoRow : OpenClaim := { program := "ytobhipohnjmnhaa", sum := "6265c64eab2fe423272f7378a735484f8be98021d30bdb98aa3015677e6036ae", func := "minikin/minikinlaw02.WordTurns", spec := "wordTurns", inPlace := ["internal/abi.NoEscape"], unfollowed := true, recurses := true, plainKeys := false, apart := false, narrowed := true }
def WordTurnsUptoSaid : Prop := wordTurnsUptoRow.holds Try.pinned (OpenSpec.upto wordTurnsSpec)

/-- 'minikinlaw02.WordMakes', WHERE WHAT IT READS IS OF BULK AT MOST 1048576: true; the input reads as it did. -/
def wordMakesUptoRow : OpenClaim := { program := "ytobhipohnjmnhaa", sum := "6265c64eab2fe423272f7378a735484f8be98021d30bdb98aa3015677e6036ae", func := "minikin/minikinlaw02.WordMakes", spec := "wordMakes", inPlace := ["internal/abi.NoEscape"], unfollowed := true, recurses := true, plainKeys := false, apart := false, narrowed := true }
def WordMakesUptoSaid : Prop := wordMakesUptoRow.holds Try.pinned (OpenSpec.upto wordMakesSpec)

/-- 'minikinlaw02.WordLearns', WHERE WHAT IT READS IS OF BULK AT MOST 1048576: true; the input reads as it did. -/
def wordLearnsUptoRow : OpenClaim := { program := "ytobhipohnjmnhaa", sum := "6265c64eab2fe423272f7378a735484f8be98021d30bdb98aa3015677e6036ae", func := "minikin/minikinlaw02.WordLearns", spec := "wordLearns", inPlace := ["internal/abi.NoEscape"], unfollowed := true, recurses := true, plainKeys := false, apart := false, narrowed := true }
def WordLearnsUptoSaid : Prop := wordLearnsUptoRow.holds Try.pinned (OpenSpec.upto wordLearnsSpec)

/-- 'minikinlaw02.WordChecks', WHERE WHAT IT READS IS OF BULK AT MOST 1048576: true; the input reads as it did. -/
def wordChecksUptoRow : OpenClaim := { program := "ytobhipohnjmnhaa", sum := "6265c64eab2fe423272f7378a735484f8be98021d30bdb98aa3015677e6036ae", func := "minikin/minikinlaw02.WordChecks", spec := "wordChecks", inPlace := ["internal/abi.NoEscape"], unfollowed := true, recurses := true, plainKeys := false, apart := false, narrowed := true }
def WordChecksUptoSaid : Prop := wordChecksUptoRow.holds Try.pinned (OpenSpec.upto wordChecksSpec)

end Rows
end Go.Proofs.Ytobhipohnjmnhaa
