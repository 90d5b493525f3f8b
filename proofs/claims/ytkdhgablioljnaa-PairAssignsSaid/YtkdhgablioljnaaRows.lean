/-
  No cell of these rows narrows 'for every input' (looked for: loops, veiled, ifaces, maps, wideKeys, modest, calm, conditions, laid).
  DERIVED. THE GIVEN ROWS OF THIS SEAT. 10 by the template 'for every input the law returns true; each argument reads behind the call as it read before'; 0 by the template 'total and deterministic' (their statements: YtkdhgablioljnaaTotals.lean).
  GIVEN WITH THE SEED: the statements are not yours to turn. If you find one false, say at which input.
  Laid BY PROGRAM, IN A SANDBOX (cutbox-rows.mjs): the forced cells as the released guide's own fill.sh prints them over the translation 325024fe227a9f04… (all of the seat's roots in one cut). By AI agents, Wed Nov 11 2026. No macro, syntax, notation, axiom, sorry.
-/
import Derived.Test.YtkdhgablioljnaaChecked
import GoSem.Claim
import GoSem.ClaimJoined
import GoSem.ClaimMapViews
import Derived.JoinedTies
import Derived.KernelRfl
namespace Go.Proofs.Ytkdhgablioljnaa
/- THE CELL 'sum', in the pinned program and in every row, IS THE sha256 OF THE DUMP (.gsa) THAT YtkdhgablioljnaaProg.lean LOADS. Nothing in Lean hashes anything: it is a label: what it is worth is what the hold of that sum in a sandbox is worth. -/
noncomputable def Try.pinned : Pinned := { name := "ytkdhgablioljnaa", sum := "325024fe227a9f041ce5d85833bca17e7bdd65e257c8b81f80fdd72f83887796", checked := Try.checked }
namespace Rows
def none {H : Type} : Left H := { results := [], args := [] }

/-- 'minikinlaw04.PairAssigns': WHATEVER THE INPUT: true; the input reads as it did. -/
def pairAssignsSpec : ChangeSpec := { name := "pairAssigns", fn := fun _ => fun
  | [d] => { results := [.lit (.bool true)], args := [d] }
  | _ => none }
def pairAssignsRow : OpenClaim := { program := "ytkdhgablioljnaa", sum := "325024fe227a9f041ce5d85833bca17e7bdd65e257c8b81f80fdd72f83887796", func := "minikin/minikinlaw04.PairAssigns", spec := "pairAssigns", unfollowed := true, recurses := true, plainKeys := false, apart := false }
def PairAssignsSaid : Prop := pairAssignsRow.holds Try.pinned (OpenSpec.ofChange pairAssignsSpec)

/-- ITS FALSE NEIGHBOUR: 'it returns false'. Refute it at one input. -/
def pairAssignsWrong : ChangeSpec := { name := "pairAssigns", fn := fun _ => fun
  | [d] => { results := [.lit (.bool false)], args := [d] }
  | _ => none }
def PairAssignsWrongFalsely : Prop := pairAssignsRow.holds Try.pinned (OpenSpec.ofChange pairAssignsWrong)

/-- 'minikinlaw04.PairPrices': WHATEVER THE INPUT: true; the input reads as it did. -/
def pairPricesSpec : ChangeSpec := { name := "pairPrices", fn := fun _ => fun
  | [d1, d2, d3] => { results := [.lit (.bool true)], args := [d1, d2, d3] }
  | _ => none }
def pairPricesRow : OpenClaim := { program := "ytkdhgablioljnaa", sum := "325024fe227a9f041ce5d85833bca17e7bdd65e257c8b81f80fdd72f83887796", func := "minikin/minikinlaw04.PairPrices", spec := "pairPrices", unfollowed := true, recurses := true, plainKeys := false, apart := false }
def PairPricesSaid : Prop := pairPricesRow.holds Try.pinned (OpenSpec.ofChange pairPricesSpec)

/-- ITS FALSE NEIGHBOUR: 'it returns false'. Refute it at one input. -/
def pairPricesWrong : ChangeSpec := { name := "pairPrices", fn := fun _ => fun
  | [d1, d2, d3] => { results := [.lit (.bool false)], args := [d1, d2, d3] }
  | _ => none }
def PairPricesWrongFalsely : Prop := pairPricesRow.holds Try.pinned (OpenSpec.ofChange pairPricesWrong)

/-- 'minikinlaw04.PairWorth': WHATEVER THE INPUT: true; the input reads as it did. -/
def pairWorthSpec : ChangeSpec := { name := "pairWorth", fn := fun _ => fun
  | [d1, d2] => { results := [.lit (.bool true)], args := [d1, d2] }
  | _ => none }
def pairWorthRow : OpenClaim := { program := "ytkdhgablioljnaa", sum := "325024fe227a9f041ce5d85833bca17e7bdd65e257c8b81f80fdd72f83887796", func := "minikin/minikinlaw04.PairWorth", spec := "pairWorth", unfollowed := true, recurses := true, plainKeys := false, apart := false }
def PairWorthSaid : Prop := pairWorthRow.holds Try.pinned (OpenSpec.ofChange pairWorthSpec)

/-- ITS FALSE NEIGHBOUR: 'it returns false'. Refute it at one input. -/
def pairWorthWrong : ChangeSpec := { name := "pairWorth", fn := fun _ => fun
  | [d1, d2] => { results := [.lit (.bool false)], args := [d1, d2] }
  | _ => none }
def PairWorthWrongFalsely : Prop := pairWorthRow.holds Try.pinned (OpenSpec.ofChange pairWorthWrong)

/-- 'minikinlaw04.PairJudges': WHATEVER THE INPUT: true; the input reads as it did. -/
def pairJudgesSpec : ChangeSpec := { name := "pairJudges", fn := fun _ => fun
  | [d1, d2, d3] => { results := [.lit (.bool true)], args := [d1, d2, d3] }
  | _ => none }
def pairJudgesRow : OpenClaim := { program := "ytkdhgablioljnaa", sum := "325024fe227a9f041ce5d85833bca17e7bdd65e257c8b81f80fdd72f83887796", func := "minikin/minikinlaw04.PairJudges", spec := "pairJudges", unfollowed := true, recurses := true, plainKeys := false, apart := false }
def PairJudgesSaid : Prop := pairJudgesRow.holds Try.pinned (OpenSpec.ofChange pairJudgesSpec)

/-- ITS FALSE NEIGHBOUR: 'it returns false'. Refute it at one input. -/
def pairJudgesWrong : ChangeSpec := { name := "pairJudges", fn := fun _ => fun
  | [d1, d2, d3] => { results := [.lit (.bool false)], args := [d1, d2, d3] }
  | _ => none }
def PairJudgesWrongFalsely : Prop := pairJudgesRow.holds Try.pinned (OpenSpec.ofChange pairJudgesWrong)

/-- 'minikinlaw04.PairBerge': WHATEVER THE INPUT: true; the input reads as it did. -/
def pairBergeSpec : ChangeSpec := { name := "pairBerge", fn := fun _ => fun
  | [d1, d2] => { results := [.lit (.bool true)], args := [d1, d2] }
  | _ => none }
def pairBergeRow : OpenClaim := { program := "ytkdhgablioljnaa", sum := "325024fe227a9f041ce5d85833bca17e7bdd65e257c8b81f80fdd72f83887796", func := "minikin/minikinlaw04.PairBerge", spec := "pairBerge", unfollowed := true, recurses := true, plainKeys := false, apart := false }
def PairBergeSaid : Prop := pairBergeRow.holds Try.pinned (OpenSpec.ofChange pairBergeSpec)

/-- ITS FALSE NEIGHBOUR: 'it returns false'. Refute it at one input. -/
def pairBergeWrong : ChangeSpec := { name := "pairBerge", fn := fun _ => fun
  | [d1, d2] => { results := [.lit (.bool false)], args := [d1, d2] }
  | _ => none }
def PairBergeWrongFalsely : Prop := pairBergeRow.holds Try.pinned (OpenSpec.ofChange pairBergeWrong)

/-- 'minikinlaw04.PairGallai': WHATEVER THE INPUT: true; the input reads as it did. -/
def pairGallaiSpec : ChangeSpec := { name := "pairGallai", fn := fun _ => fun
  | [d] => { results := [.lit (.bool true)], args := [d] }
  | _ => none }
def pairGallaiRow : OpenClaim := { program := "ytkdhgablioljnaa", sum := "325024fe227a9f041ce5d85833bca17e7bdd65e257c8b81f80fdd72f83887796", func := "minikin/minikinlaw04.PairGallai", spec := "pairGallai", unfollowed := true, recurses := true, plainKeys := false, apart := false }
def PairGallaiSaid : Prop := pairGallaiRow.holds Try.pinned (OpenSpec.ofChange pairGallaiSpec)

/-- ITS FALSE NEIGHBOUR: 'it returns false'. Refute it at one input. -/
def pairGallaiWrong : ChangeSpec := { name := "pairGallai", fn := fun _ => fun
  | [d] => { results := [.lit (.bool false)], args := [d] }
  | _ => none }
def PairGallaiWrongFalsely : Prop := pairGallaiRow.holds Try.pinned (OpenSpec.ofChange pairGallaiWrong)

/-- 'minikinlaw04.PairDilworth': WHATEVER THE INPUT: true; the input reads as it did. -/
def pairDilworthSpec : ChangeSpec := { name := "pairDilworth", fn := fun _ => fun
  | [d1, d2] => { results := [.lit (.bool true)], args := [d1, d2] }
  | _ => none }
def pairDilworthRow : OpenClaim := { program := "ytkdhgablioljnaa", sum := "325024fe227a9f041ce5d85833bca17e7bdd65e257c8b81f80fdd72f83887796", func := "minikin/minikinlaw04.PairDilworth", spec := "pairDilworth", unfollowed := true, recurses := true, plainKeys := false, apart := false }
def PairDilworthSaid : Prop := pairDilworthRow.holds Try.pinned (OpenSpec.ofChange pairDilworthSpec)

/-- ITS FALSE NEIGHBOUR: 'it returns false'. Refute it at one input. -/
def pairDilworthWrong : ChangeSpec := { name := "pairDilworth", fn := fun _ => fun
  | [d1, d2] => { results := [.lit (.bool false)], args := [d1, d2] }
  | _ => none }
def PairDilworthWrongFalsely : Prop := pairDilworthRow.holds Try.pinned (OpenSpec.ofChange pairDilworthWrong)

/-- 'minikinlaw04.PairOrders': WHATEVER THE INPUT: true; the input reads as it did. -/
def pairOrdersSpec : ChangeSpec := { name := "pairOrders", fn := fun _ => fun
  | [d1, d2] => { results := [.lit (.bool true)], args := [d1, d2] }
  | _ => none }
def pairOrdersRow : OpenClaim := { program := "ytkdhgablioljnaa", sum := "325024fe227a9f041ce5d85833bca17e7bdd65e257c8b81f80fdd72f83887796", func := "minikin/minikinlaw04.PairOrders", spec := "pairOrders", unfollowed := true, recurses := true, plainKeys := false, apart := false }
def PairOrdersSaid : Prop := pairOrdersRow.holds Try.pinned (OpenSpec.ofChange pairOrdersSpec)

/-- ITS FALSE NEIGHBOUR: 'it returns false'. Refute it at one input. -/
def pairOrdersWrong : ChangeSpec := { name := "pairOrders", fn := fun _ => fun
  | [d1, d2] => { results := [.lit (.bool false)], args := [d1, d2] }
  | _ => none }
def PairOrdersWrongFalsely : Prop := pairOrdersRow.holds Try.pinned (OpenSpec.ofChange pairOrdersWrong)

/-- 'minikinlaw04.PairChecks': WHATEVER THE INPUT: true; the input reads as it did. -/
def pairChecksSpec : ChangeSpec := { name := "pairChecks", fn := fun _ => fun
  | [d] => { results := [.lit (.bool true)], args := [d] }
  | _ => none }
def pairChecksRow : OpenClaim := { program := "ytkdhgablioljnaa", sum := "325024fe227a9f041ce5d85833bca17e7bdd65e257c8b81f80fdd72f83887796", func := "minikin/minikinlaw04.PairChecks", spec := "pairChecks", unfollowed := true, recurses := true, plainKeys := false, apart := false }
def PairChecksSaid : Prop := pairChecksRow.holds Try.pinned (OpenSpec.ofChange pairChecksSpec)

/-- ITS FALSE NEIGHBOUR: 'it returns false'. Refute it at one input. -/
def pairChecksWrong : ChangeSpec := { name := "pairChecks", fn := fun _ => fun
  | [d] => { results := [.lit (.bool false)], args := [d] }
  | _ => none }
def PairChecksWrongFalsely : Prop := pairChecksRow.holds Try.pinned (OpenSpec.ofChange pairChecksWrong)

/-- 'minikinlaw04.PairMatches': WHATEVER THE INPUT: true; the input reads as it did. -/
def pairMatchesSpec : ChangeSpec := { name := "pairMatches", fn := fun _ => fun
  | [d] => { results := [.lit (.bool true)], args := [d] }
  | _ => none }
def pairMatchesRow : OpenClaim := { program := "ytkdhgablioljnaa", sum := "325024fe227a9f041ce5d85833bca17e7bdd65e257c8b81f80fdd72f83887796", func := "minikin/minikinlaw04.PairMatches", spec := "pairMatches", unfollowed := true, recurses := true, plainKeys := false, apart := false }
def PairMatchesSaid : Prop := pairMatchesRow.holds Try.pinned (OpenSpec.ofChange pairMatchesSpec)

/-- ITS FALSE NEIGHBOUR: 'it returns false'. Refute it at one input. -/
def pairMatchesWrong : ChangeSpec := { name := "pairMatches", fn := fun _ => fun
  | [d] => { results := [.lit (.bool false)], args := [d] }
  | _ => none }
def PairMatchesWrongFalsely : Prop := pairMatchesRow.holds Try.pinned (OpenSpec.ofChange pairMatchesWrong)

/- THE SECOND FORM. 'bulk': how many values and letters a reading holds, each counted each time it is reached (what is shared counts as often as it is met; a slice's spare places count too). A statement '..UptoSaid' is the law's where the arguments, and the package variables that the reading takes, are together of bulk at most 1048576: NARROWER than '..Said'. Prove '..Said' where nothing that the law and all that it calls make is longer than what came in: it says more and counts as full. Else prove '..UptoSaid'. A law counts once. -/
mutual
def uptoBulk {H : Type} : DataW H → Nat
  | .lit (.string bytes) => bytes.length + 1
  | .lit _ => 1
  | .nil => 1
  | .ptr d => uptoBulk d + 1
  | .slice elems spare => uptoBulkAll elems + uptoBulkAll spare + 1
  | .agg parts => uptoBulkAll parts + 1
  | .iface _ d => uptoBulk d + 1
  | .map entries => uptoBulkEntries entries + 1
  | .held _ => 1
def uptoBulkAll {H : Type} : List (DataW H) → Nat
  | [] => 0
  | d :: r => uptoBulk d + uptoBulkAll r
def uptoBulkEntries {H : Type} : List (Lit × DataW H) → Nat
  | [] => 0
  | x :: r => uptoBulkEntry x + uptoBulkEntries r
def uptoBulkEntry {H : Type} : Lit × DataW H → Nat
  | (.string bytes, d) => bytes.length + uptoBulk d + 1
  | (_, d) => uptoBulk d + 1
 end
def uptoSmall : (H : Type) → List (DataW H) → Bool := fun _ ds => decide (uptoBulkAll ds ≤ 1048576)
def OpenSpec.upto (s : _root_.Go.ChangeSpec) : _root_.Go.OpenSpec := { _root_.Go.OpenSpec.ofChange s with cond := some uptoSmall }

/-- 'minikinlaw04.PairAssigns', WHERE WHAT IT READS IS OF BULK AT MOST 1048576: true; the input reads as it did. -/
def pairAssignsUptoRow : OpenClaim := { program := "ytkdhgablioljnaa", sum := "325024fe227a9f041ce5d85833bca17e7bdd65e257c8b81f80fdd72f83887796", func := "minikin/minikinlaw04.PairAssigns", spec := "pairAssigns", unfollowed := true, recurses := true, plainKeys := false, apart := false, narrowed := true }
def PairAssignsUptoSaid : Prop := pairAssignsUptoRow.holds Try.pinned (OpenSpec.upto pairAssignsSpec)

/-- 'minikinlaw04.PairPrices', WHERE WHAT IT READS IS OF BULK AT MOST 1048576: true; the input reads as it did. -/
def pairPricesUptoRow : OpenClaim := { program := "ytkdhgablioljnaa", sum := "325024fe227a9f041ce5d85833bca17e7bdd65e257c8b81f80fdd72f83887796", func := "minikin/minikinlaw04.PairPrices", spec := "pairPrices", unfollowed := true, recurses := true, plainKeys := false, apart := false, narrowed := true }
def PairPricesUptoSaid : Prop := pairPricesUptoRow.holds Try.pinned (OpenSpec.upto pairPricesSpec)

/-- 'minikinlaw04.PairWorth', WHERE WHAT IT READS IS OF BULK AT MOST 1048576: true; the input reads as it did. -/
def pairWorthUptoRow : OpenClaim := { program := "ytkdhgablioljnaa", sum := "325024fe227a9f041ce5d85833bca17e7bdd65e257c8b81f80fdd72f83887796", func := "minikin/minikinlaw04.PairWorth", spec := "pairWorth", unfollowed := true, recurses := true, plainKeys := false, apart := false, narrowed := true }
def PairWorthUptoSaid : Prop := pairWorthUptoRow.holds Try.pinned (OpenSpec.upto pairWorthSpec)

/-- 'minikinlaw04.PairJudges', WHERE WHAT IT READS IS OF BULK AT MOST 1048576: true; the input reads as it did. -/
def pairJudgesUptoRow : OpenClaim := { program := "ytkdhgablioljnaa", sum := "325024fe227a9f041ce5d85833bca17e7bdd65e257c8b81f80fdd72f83887796", func := "minikin/minikinlaw04.PairJudges", spec := "pairJudges", unfollowed := true, recurses := true, plainKeys := false, apart := false, narrowed := true }
def PairJudgesUptoSaid : Prop := pairJudgesUptoRow.holds Try.pinned (OpenSpec.upto pairJudgesSpec)

/-- 'minikinlaw04.PairBerge', WHERE WHAT IT READS IS OF BULK AT MOST 1048576: true; the input reads as it did. -/
def pairBergeUptoRow : OpenClaim := { program := "ytkdhgablioljnaa", sum := "325024fe227a9f041ce5d85833bca17e7bdd65e257c8b81f80fdd72f83887796", func := "minikin/minikinlaw04.PairBerge", spec := "pairBerge", unfollowed := true, recurses := true, plainKeys := false, apart := false, narrowed := true }
def PairBergeUptoSaid : Prop := pairBergeUptoRow.holds Try.pinned (OpenSpec.upto pairBergeSpec)

/-- 'minikinlaw04.PairGallai', WHERE WHAT IT READS IS OF BULK AT MOST 1048576: true; the input reads as it did. -/
def pairGallaiUptoRow : OpenClaim := { program := "ytkdhgablioljnaa", sum := "325024fe227a9f041ce5d85833bca17e7bdd65e257c8b81f80fdd72f83887796", func := "minikin/minikinlaw04.PairGallai", spec := "pairGallai", unfollowed := true, recurses := true, plainKeys := false, apart := false, narrowed := true }
def PairGallaiUptoSaid : Prop := pairGallaiUptoRow.holds Try.pinned (OpenSpec.upto pairGallaiSpec)

/-- 'minikinlaw04.PairDilworth', WHERE WHAT IT READS IS OF BULK AT MOST 1048576: true; the input reads as it did. -/
def pairDilworthUptoRow : OpenClaim := { program := "ytkdhgablioljnaa", sum := "325024fe227a9f041ce5d85833bca17e7bdd65e257c8b81f80fdd72f83887796", func := "minikin/minikinlaw04.PairDilworth", spec := "pairDilworth", unfollowed := true, recurses := true, plainKeys := false, apart := false, narrowed := true }
def PairDilworthUptoSaid : Prop := pairDilworthUptoRow.holds Try.pinned (OpenSpec.upto pairDilworthSpec)

/-- 'minikinlaw04.PairOrders', WHERE WHAT IT READS IS OF BULK AT MOST 1048576: true; the input reads as it did. -/
def pairOrdersUptoRow : OpenClaim := { program := "ytkdhgablioljnaa", sum := "325024fe227a9f041ce5d85833bca17e7bdd65e257c8b81f80fdd72f83887796", func := "minikin/minikinlaw04.PairOrders", spec := "pairOrders", unfollowed := true, recurses := true, plainKeys := false, apart := false, narrowed := true }
def PairOrdersUptoSaid : Prop := pairOrdersUptoRow.holds Try.pinned (OpenSpec.upto pairOrdersSpec)

/-- 'minikinlaw04.PairChecks', WHERE WHAT IT READS IS OF BULK AT MOST 1048576: true; the input reads as it did. -/
def pairChecksUptoRow : OpenClaim := { program := "ytkdhgablioljnaa", sum := "325024fe227a9f041ce5d85833bca17e7bdd65e257c8b81f80fdd72f83887796", func := "minikin/minikinlaw04.PairChecks", spec := "pairChecks", unfollowed := true, recurses := true, plainKeys := false, apart := false, narrowed := true }
def PairChecksUptoSaid : Prop := pairChecksUptoRow.holds Try.pinned (OpenSpec.upto pairChecksSpec)

/-- 'minikinlaw04.PairMatches', WHERE WHAT IT READS IS OF BULK AT MOST 1048576: true; the input reads as it did. -/
def pairMatchesUptoRow : OpenClaim := { program := "ytkdhgablioljnaa", sum := "325024fe227a9f041ce5d85833bca17e7bdd65e257c8b81f80fdd72f83887796", func := "minikin/minikinlaw04.PairMatches", spec := "pairMatches", unfollowed := true, recurses := true, plainKeys := false, apart := false, narrowed := true }
def PairMatchesUptoSaid : Prop := pairMatchesUptoRow.holds Try.pinned (OpenSpec.upto pairMatchesSpec)

end Rows
end Go.Proofs.Ytkdhgablioljnaa
