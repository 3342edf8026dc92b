/-
  No cell of these rows narrows 'for every input' (looked for: loops, veiled, ifaces, maps, wideKeys, modest, calm, conditions, laid).
  DERIVED. THE GIVEN ROWS OF THIS SEAT. 14 by the template 'for every input the law returns true; each argument reads behind the call as it read before'; 0 by the template 'total and deterministic' (their statements: YtoljnbbhoeloeaaTotals.lean).
  GIVEN WITH THE SEED: the statements are not yours to turn. If you find one false, say at which input.
  Laid BY PROGRAM, IN A SANDBOX (cutbox-rows.mjs): the forced cells as the released guide's own fill.sh prints them over the translation df5c9f828539d05a… (all of the seat's roots in one cut). By AI agents, Wed Nov 11 2026. No macro, syntax, notation, axiom, sorry.
-/
import Derived.Test.YtoljnbbhoeloeaaChecked
import GoSem.Claim
import GoSem.ClaimJoined
import GoSem.ClaimMapViews
import Derived.JoinedTies
import Derived.KernelRfl
namespace Go.Proofs.Ytoljnbbhoeloeaa
/- THE CELL 'sum', in the pinned program and in every row, IS THE sha256 OF THE DUMP (.gsa) THAT YtoljnbbhoeloeaaProg.lean LOADS. Nothing in Lean hashes anything: it is a label: what it is worth is what the hold of that sum in a sandbox is worth. -/
noncomputable def Try.pinned : Pinned := { name := "ytoljnbbhoeloeaa", sum := "df5c9f828539d05a61b370c062c3860931f9397cf021a36c9b1887a6316afff3", checked := Try.checked }
namespace Rows
def none {H : Type} : Left H := { results := [], args := [] }

/-- 'ostraconlaw09.CopiesVaries': WHATEVER THE INPUT: true; the input reads as it did. -/
def copiesVariesSpec : ChangeSpec := { name := "copiesVaries", fn := fun _ => fun
  | [d1, d2] => { results := [.lit (.bool true)], args := [d1, d2] }
  | _ => none }
def copiesVariesRow : OpenClaim := { program := "ytoljnbbhoeloeaa", sum := "df5c9f828539d05a61b370c062c3860931f9397cf021a36c9b1887a6316afff3", func := "ostracon/ostraconlaw09.CopiesVaries", spec := "copiesVaries", unfollowed := true, recurses := true, apart := false }
def CopiesVariesSaid : Prop := copiesVariesRow.holds Try.pinned (OpenSpec.ofChange copiesVariesSpec)

/-- ITS FALSE NEIGHBOUR: 'it returns false'. Refute it at one input. -/
def copiesVariesWrong : ChangeSpec := { name := "copiesVaries", fn := fun _ => fun
  | [d1, d2] => { results := [.lit (.bool false)], args := [d1, d2] }
  | _ => none }
def CopiesVariesWrongFalsely : Prop := copiesVariesRow.holds Try.pinned (OpenSpec.ofChange copiesVariesWrong)

/-- 'ostraconlaw09.CopiesTests': WHATEVER THE INPUT: true; the input reads as it did. -/
def copiesTestsSpec : ChangeSpec := { name := "copiesTests", fn := fun _ => fun
  | [d1, d2] => { results := [.lit (.bool true)], args := [d1, d2] }
  | _ => none }
def copiesTestsRow : OpenClaim := { program := "ytoljnbbhoeloeaa", sum := "df5c9f828539d05a61b370c062c3860931f9397cf021a36c9b1887a6316afff3", func := "ostracon/ostraconlaw09.CopiesTests", spec := "copiesTests", unfollowed := true, recurses := true, apart := false }
def CopiesTestsSaid : Prop := copiesTestsRow.holds Try.pinned (OpenSpec.ofChange copiesTestsSpec)

/-- ITS FALSE NEIGHBOUR: 'it returns false'. Refute it at one input. -/
def copiesTestsWrong : ChangeSpec := { name := "copiesTests", fn := fun _ => fun
  | [d1, d2] => { results := [.lit (.bool false)], args := [d1, d2] }
  | _ => none }
def CopiesTestsWrongFalsely : Prop := copiesTestsRow.holds Try.pinned (OpenSpec.ofChange copiesTestsWrong)

/-- 'ostraconlaw09.CopiesChance': WHATEVER THE INPUT: true; the input reads as it did. -/
def copiesChanceSpec : ChangeSpec := { name := "copiesChance", fn := fun _ => fun
  | [d1, d2] => { results := [.lit (.bool true)], args := [d1, d2] }
  | _ => none }
def copiesChanceRow : OpenClaim := { program := "ytoljnbbhoeloeaa", sum := "df5c9f828539d05a61b370c062c3860931f9397cf021a36c9b1887a6316afff3", func := "ostracon/ostraconlaw09.CopiesChance", spec := "copiesChance", unfollowed := true, recurses := true, apart := false }
def CopiesChanceSaid : Prop := copiesChanceRow.holds Try.pinned (OpenSpec.ofChange copiesChanceSpec)

/-- ITS FALSE NEIGHBOUR: 'it returns false'. Refute it at one input. -/
def copiesChanceWrong : ChangeSpec := { name := "copiesChance", fn := fun _ => fun
  | [d1, d2] => { results := [.lit (.bool false)], args := [d1, d2] }
  | _ => none }
def CopiesChanceWrongFalsely : Prop := copiesChanceRow.holds Try.pinned (OpenSpec.ofChange copiesChanceWrong)

/-- 'ostraconlaw09.CopiesAligns': WHATEVER THE INPUT: true; the input reads as it did. -/
def copiesAlignsSpec : ChangeSpec := { name := "copiesAligns", fn := fun _ => fun
  | [d1, d2] => { results := [.lit (.bool true)], args := [d1, d2] }
  | _ => none }
def copiesAlignsRow : OpenClaim := { program := "ytoljnbbhoeloeaa", sum := "df5c9f828539d05a61b370c062c3860931f9397cf021a36c9b1887a6316afff3", func := "ostracon/ostraconlaw09.CopiesAligns", spec := "copiesAligns", unfollowed := true, recurses := true, apart := false }
def CopiesAlignsSaid : Prop := copiesAlignsRow.holds Try.pinned (OpenSpec.ofChange copiesAlignsSpec)

/-- ITS FALSE NEIGHBOUR: 'it returns false'. Refute it at one input. -/
def copiesAlignsWrong : ChangeSpec := { name := "copiesAligns", fn := fun _ => fun
  | [d1, d2] => { results := [.lit (.bool false)], args := [d1, d2] }
  | _ => none }
def CopiesAlignsWrongFalsely : Prop := copiesAlignsRow.holds Try.pinned (OpenSpec.ofChange copiesAlignsWrong)

/-- 'ostraconlaw09.CopiesLeast': WHATEVER THE INPUT: true; the input reads as it did. -/
def copiesLeastSpec : ChangeSpec := { name := "copiesLeast", fn := fun _ => fun
  | [d1, d2, d3] => { results := [.lit (.bool true)], args := [d1, d2, d3] }
  | _ => none }
def copiesLeastRow : OpenClaim := { program := "ytoljnbbhoeloeaa", sum := "df5c9f828539d05a61b370c062c3860931f9397cf021a36c9b1887a6316afff3", func := "ostracon/ostraconlaw09.CopiesLeast", spec := "copiesLeast", unfollowed := true, recurses := true, apart := false }
def CopiesLeastSaid : Prop := copiesLeastRow.holds Try.pinned (OpenSpec.ofChange copiesLeastSpec)

/-- ITS FALSE NEIGHBOUR: 'it returns false'. Refute it at one input. -/
def copiesLeastWrong : ChangeSpec := { name := "copiesLeast", fn := fun _ => fun
  | [d1, d2, d3] => { results := [.lit (.bool false)], args := [d1, d2, d3] }
  | _ => none }
def CopiesLeastWrongFalsely : Prop := copiesLeastRow.holds Try.pinned (OpenSpec.ofChange copiesLeastWrong)

/-- 'ostraconlaw09.CopiesApplies': WHATEVER THE INPUT: true; the input reads as it did. -/
def copiesAppliesSpec : ChangeSpec := { name := "copiesApplies", fn := fun _ => fun
  | [d1, d2, d3] => { results := [.lit (.bool true)], args := [d1, d2, d3] }
  | _ => none }
def copiesAppliesRow : OpenClaim := { program := "ytoljnbbhoeloeaa", sum := "df5c9f828539d05a61b370c062c3860931f9397cf021a36c9b1887a6316afff3", func := "ostracon/ostraconlaw09.CopiesApplies", spec := "copiesApplies", unfollowed := true, recurses := true, apart := false }
def CopiesAppliesSaid : Prop := copiesAppliesRow.holds Try.pinned (OpenSpec.ofChange copiesAppliesSpec)

/-- ITS FALSE NEIGHBOUR: 'it returns false'. Refute it at one input. -/
def copiesAppliesWrong : ChangeSpec := { name := "copiesApplies", fn := fun _ => fun
  | [d1, d2, d3] => { results := [.lit (.bool false)], args := [d1, d2, d3] }
  | _ => none }
def CopiesAppliesWrongFalsely : Prop := copiesAppliesRow.holds Try.pinned (OpenSpec.ofChange copiesAppliesWrong)

/-- 'ostraconlaw09.CopiesRestore': WHATEVER THE INPUT: true; the input reads as it did. -/
def copiesRestoreSpec : ChangeSpec := { name := "copiesRestore", fn := fun _ => fun
  | [d1, d2] => { results := [.lit (.bool true)], args := [d1, d2] }
  | _ => none }
def copiesRestoreRow : OpenClaim := { program := "ytoljnbbhoeloeaa", sum := "df5c9f828539d05a61b370c062c3860931f9397cf021a36c9b1887a6316afff3", func := "ostracon/ostraconlaw09.CopiesRestore", spec := "copiesRestore", unfollowed := true, recurses := true, apart := false }
def CopiesRestoreSaid : Prop := copiesRestoreRow.holds Try.pinned (OpenSpec.ofChange copiesRestoreSpec)

/-- ITS FALSE NEIGHBOUR: 'it returns false'. Refute it at one input. -/
def copiesRestoreWrong : ChangeSpec := { name := "copiesRestore", fn := fun _ => fun
  | [d1, d2] => { results := [.lit (.bool false)], args := [d1, d2] }
  | _ => none }
def CopiesRestoreWrongFalsely : Prop := copiesRestoreRow.holds Try.pinned (OpenSpec.ofChange copiesRestoreWrong)

/-- 'ostraconlaw09.CopiesTells': WHATEVER THE INPUT: true; the input reads as it did. -/
def copiesTellsSpec : ChangeSpec := { name := "copiesTells", fn := fun _ => fun
  | [d1, d2, d3] => { results := [.lit (.bool true)], args := [d1, d2, d3] }
  | _ => none }
def copiesTellsRow : OpenClaim := { program := "ytoljnbbhoeloeaa", sum := "df5c9f828539d05a61b370c062c3860931f9397cf021a36c9b1887a6316afff3", func := "ostracon/ostraconlaw09.CopiesTells", spec := "copiesTells", unfollowed := true, recurses := true, apart := false }
def CopiesTellsSaid : Prop := copiesTellsRow.holds Try.pinned (OpenSpec.ofChange copiesTellsSpec)

/-- ITS FALSE NEIGHBOUR: 'it returns false'. Refute it at one input. -/
def copiesTellsWrong : ChangeSpec := { name := "copiesTells", fn := fun _ => fun
  | [d1, d2, d3] => { results := [.lit (.bool false)], args := [d1, d2, d3] }
  | _ => none }
def CopiesTellsWrongFalsely : Prop := copiesTellsRow.holds Try.pinned (OpenSpec.ofChange copiesTellsWrong)

/-- 'ostraconlaw09.CopiesFits': WHATEVER THE INPUT: true; the input reads as it did. -/
def copiesFitsSpec : ChangeSpec := { name := "copiesFits", fn := fun _ => fun
  | [d1, d2, d3] => { results := [.lit (.bool true)], args := [d1, d2, d3] }
  | _ => none }
def copiesFitsRow : OpenClaim := { program := "ytoljnbbhoeloeaa", sum := "df5c9f828539d05a61b370c062c3860931f9397cf021a36c9b1887a6316afff3", func := "ostracon/ostraconlaw09.CopiesFits", spec := "copiesFits", unfollowed := true, recurses := true, apart := false }
def CopiesFitsSaid : Prop := copiesFitsRow.holds Try.pinned (OpenSpec.ofChange copiesFitsSpec)

/-- ITS FALSE NEIGHBOUR: 'it returns false'. Refute it at one input. -/
def copiesFitsWrong : ChangeSpec := { name := "copiesFits", fn := fun _ => fun
  | [d1, d2, d3] => { results := [.lit (.bool false)], args := [d1, d2, d3] }
  | _ => none }
def CopiesFitsWrongFalsely : Prop := copiesFitsRow.holds Try.pinned (OpenSpec.ofChange copiesFitsWrong)

/-- 'ostraconlaw09.CopiesHands': WHATEVER THE INPUT: true; the input reads as it did. -/
def copiesHandsSpec : ChangeSpec := { name := "copiesHands", fn := fun _ => fun
  | [d1, d2] => { results := [.lit (.bool true)], args := [d1, d2] }
  | _ => none }
def copiesHandsRow : OpenClaim := { program := "ytoljnbbhoeloeaa", sum := "df5c9f828539d05a61b370c062c3860931f9397cf021a36c9b1887a6316afff3", func := "ostracon/ostraconlaw09.CopiesHands", spec := "copiesHands", unfollowed := true, recurses := true, apart := false }
def CopiesHandsSaid : Prop := copiesHandsRow.holds Try.pinned (OpenSpec.ofChange copiesHandsSpec)

/-- ITS FALSE NEIGHBOUR: 'it returns false'. Refute it at one input. -/
def copiesHandsWrong : ChangeSpec := { name := "copiesHands", fn := fun _ => fun
  | [d1, d2] => { results := [.lit (.bool false)], args := [d1, d2] }
  | _ => none }
def CopiesHandsWrongFalsely : Prop := copiesHandsRow.holds Try.pinned (OpenSpec.ofChange copiesHandsWrong)

/-- 'ostraconlaw09.CopiesFewest': WHATEVER THE INPUT: true; the input reads as it did. -/
def copiesFewestSpec : ChangeSpec := { name := "copiesFewest", fn := fun _ => fun
  | [d1, d2, d3] => { results := [.lit (.bool true)], args := [d1, d2, d3] }
  | _ => none }
def copiesFewestRow : OpenClaim := { program := "ytoljnbbhoeloeaa", sum := "df5c9f828539d05a61b370c062c3860931f9397cf021a36c9b1887a6316afff3", func := "ostracon/ostraconlaw09.CopiesFewest", spec := "copiesFewest", unfollowed := true, recurses := true, apart := false }
def CopiesFewestSaid : Prop := copiesFewestRow.holds Try.pinned (OpenSpec.ofChange copiesFewestSpec)

/-- ITS FALSE NEIGHBOUR: 'it returns false'. Refute it at one input. -/
def copiesFewestWrong : ChangeSpec := { name := "copiesFewest", fn := fun _ => fun
  | [d1, d2, d3] => { results := [.lit (.bool false)], args := [d1, d2, d3] }
  | _ => none }
def CopiesFewestWrongFalsely : Prop := copiesFewestRow.holds Try.pinned (OpenSpec.ofChange copiesFewestWrong)

/-- 'ostraconlaw09.CopiesRows': WHATEVER THE INPUT: true; the input reads as it did. -/
def copiesRowsSpec : ChangeSpec := { name := "copiesRows", fn := fun _ => fun
  | [d1, d2, d3] => { results := [.lit (.bool true)], args := [d1, d2, d3] }
  | _ => none }
def copiesRowsRow : OpenClaim := { program := "ytoljnbbhoeloeaa", sum := "df5c9f828539d05a61b370c062c3860931f9397cf021a36c9b1887a6316afff3", func := "ostracon/ostraconlaw09.CopiesRows", spec := "copiesRows", unfollowed := true, recurses := true, apart := false }
def CopiesRowsSaid : Prop := copiesRowsRow.holds Try.pinned (OpenSpec.ofChange copiesRowsSpec)

/-- ITS FALSE NEIGHBOUR: 'it returns false'. Refute it at one input. -/
def copiesRowsWrong : ChangeSpec := { name := "copiesRows", fn := fun _ => fun
  | [d1, d2, d3] => { results := [.lit (.bool false)], args := [d1, d2, d3] }
  | _ => none }
def CopiesRowsWrongFalsely : Prop := copiesRowsRow.holds Try.pinned (OpenSpec.ofChange copiesRowsWrong)

/-- 'ostraconlaw09.CopiesJoins': WHATEVER THE INPUT: true; the input reads as it did. -/
def copiesJoinsSpec : ChangeSpec := { name := "copiesJoins", fn := fun _ => fun
  | [d1, d2, d3] => { results := [.lit (.bool true)], args := [d1, d2, d3] }
  | _ => none }
def copiesJoinsRow : OpenClaim := { program := "ytoljnbbhoeloeaa", sum := "df5c9f828539d05a61b370c062c3860931f9397cf021a36c9b1887a6316afff3", func := "ostracon/ostraconlaw09.CopiesJoins", spec := "copiesJoins", unfollowed := true, recurses := true, apart := false }
def CopiesJoinsSaid : Prop := copiesJoinsRow.holds Try.pinned (OpenSpec.ofChange copiesJoinsSpec)

/-- ITS FALSE NEIGHBOUR: 'it returns false'. Refute it at one input. -/
def copiesJoinsWrong : ChangeSpec := { name := "copiesJoins", fn := fun _ => fun
  | [d1, d2, d3] => { results := [.lit (.bool false)], args := [d1, d2, d3] }
  | _ => none }
def CopiesJoinsWrongFalsely : Prop := copiesJoinsRow.holds Try.pinned (OpenSpec.ofChange copiesJoinsWrong)

/-- 'ostraconlaw09.CopiesShuffled': WHATEVER THE INPUT: true; the input reads as it did. -/
def copiesShuffledSpec : ChangeSpec := { name := "copiesShuffled", fn := fun _ => fun
  | [d1, d2] => { results := [.lit (.bool true)], args := [d1, d2] }
  | _ => none }
def copiesShuffledRow : OpenClaim := { program := "ytoljnbbhoeloeaa", sum := "df5c9f828539d05a61b370c062c3860931f9397cf021a36c9b1887a6316afff3", func := "ostracon/ostraconlaw09.CopiesShuffled", spec := "copiesShuffled", unfollowed := true, recurses := true, apart := false }
def CopiesShuffledSaid : Prop := copiesShuffledRow.holds Try.pinned (OpenSpec.ofChange copiesShuffledSpec)

/-- ITS FALSE NEIGHBOUR: 'it returns false'. Refute it at one input. -/
def copiesShuffledWrong : ChangeSpec := { name := "copiesShuffled", fn := fun _ => fun
  | [d1, d2] => { results := [.lit (.bool false)], args := [d1, d2] }
  | _ => none }
def CopiesShuffledWrongFalsely : Prop := copiesShuffledRow.holds Try.pinned (OpenSpec.ofChange copiesShuffledWrong)

/- THE SECOND FORM. 'bulk': how many values and letters a reading holds, each counted each time it is reached (what is shared counts as often as it is met; a slice's spare places count too). A statement '..UptoSaid' is the law's where the arguments, and the package variables that the reading takes, are together of bulk at most 1048576: NARROWER than '..Said'. Prove '..Said' where nothing that the law and all that it calls make is longer than what came in: it says more and counts as full. Else prove '..UptoSaid'. A law counts once. -/
mutual
def uptoBulk {H : Type} : DataW H → Nat
  | .lit (.string bytes) => bytes.length + 1
  | .lit _ => 1
  | .nil => 1
  | .ptr d => uptoBulk d + 1
  | .slice elems spare => uptoBulkAll elems + uptoBulkAll spare + 1
  | .agg parts => uptoBulkAll parts + 1
  | .iface _ d => uptoBulk d + 1
  | .map entries => uptoBulkEntries entries + 1
  | .held _ => 1
def uptoBulkAll {H : Type} : List (DataW H) → Nat
  | [] => 0
  | d :: r => uptoBulk d + uptoBulkAll r
def uptoBulkEntries {H : Type} : List (Lit × DataW H) → Nat
  | [] => 0
  | x :: r => uptoBulkEntry x + uptoBulkEntries r
def uptoBulkEntry {H : Type} : Lit × DataW H → Nat
  | (.string bytes, d) => bytes.length + uptoBulk d + 1
  | (_, d) => uptoBulk d + 1
 end
def uptoSmall : (H : Type) → List (DataW H) → Bool := fun _ ds => decide (uptoBulkAll ds ≤ 1048576)
def OpenSpec.upto (s : _root_.Go.ChangeSpec) : _root_.Go.OpenSpec := { _root_.Go.OpenSpec.ofChange s with cond := some uptoSmall }

/-- 'ostraconlaw09.CopiesVaries', WHERE WHAT IT READS IS OF BULK AT MOST 1048576: true; the input reads as it did. -/
def copiesVariesUptoRow : OpenClaim := { program := "ytoljnbbhoeloeaa", sum := "df5c9f828539d05a61b370c062c3860931f9397cf021a36c9b1887a6316afff3", func := "ostracon/ostraconlaw09.CopiesVaries", spec := "copiesVaries", unfollowed := true, recurses := true, apart := false, narrowed := true }
def CopiesVariesUptoSaid : Prop := copiesVariesUptoRow.holds Try.pinned (OpenSpec.upto copiesVariesSpec)

/-- 'ostraconlaw09.CopiesTests', WHERE WHAT IT READS IS OF BULK AT MOST 1048576: true; the input reads as it did. -/
def copiesTestsUptoRow : OpenClaim := { program := "ytoljnbbhoeloeaa", sum := "df5c9f828539d05a61b370c062c3860931f9397cf021a36c9b1887a6316afff3", func := "ostracon/ostraconlaw09.CopiesTests", spec := "copiesTests", unfollowed := true, recurses := true, apart := false, narrowed := true }
def CopiesTestsUptoSaid : Prop := copiesTestsUptoRow.holds Try.pinned (OpenSpec.upto copiesTestsSpec)

/-- 'ostraconlaw09.CopiesChance', WHERE WHAT IT READS IS OF BULK AT MOST 1048576: true; the input reads as it did. -/
def copiesChanceUptoRow : OpenClaim := { program := "ytoljnbbhoeloeaa", sum := "df5c9f828539d05a61b370c062c3860931f9397cf021a36c9b1887a6316afff3", func := "ostracon/ostraconlaw09.CopiesChance", spec := "copiesChance", unfollowed := true, recurses := true, apart := false, narrowed := true }
def CopiesChanceUptoSaid : Prop := copiesChanceUptoRow.holds Try.pinned (OpenSpec.upto copiesChanceSpec)

/-- 'ostraconlaw09.CopiesAligns', WHERE WHAT IT READS IS OF BULK AT MOST 1048576: true; the input reads as it did. -/
def copiesAlignsUptoRow : OpenClaim := { program := "ytoljnbbhoeloeaa", sum := "df5c9f828539d05a61b370c062c3860931f9397cf021a36c9b1887a6316afff3", func := "ostracon/ostraconlaw09.CopiesAligns", spec := "copiesAligns", unfollowed := true, recurses := true, apart := false, narrowed := true }
def CopiesAlignsUptoSaid : Prop := copiesAlignsUptoRow.holds Try.pinned (OpenSpec.upto copiesAlignsSpec)

/-- 'ostraconlaw09.CopiesLeast', WHERE WHAT IT READS IS OF BULK AT MOST 1048576: true; the input reads as it did. -/
def copiesLeastUptoRow : OpenClaim := { program := "ytoljnbbhoeloeaa", sum := "df5c9f828539d05a61b370c062c3860931f9397cf021a36c9b1887a6316afff3", func := "ostracon/ostraconlaw09.CopiesLeast", spec := "copiesLeast", unfollowed := true, recurses := true, apart := false, narrowed := true }
def CopiesLeastUptoSaid : Prop := copiesLeastUptoRow.holds Try.pinned (OpenSpec.upto copiesLeastSpec)

/-- 'ostraconlaw09.CopiesApplies', WHERE WHAT IT READS IS OF BULK AT MOST 1048576: true; the input reads as it did. -/
def copiesAppliesUptoRow : OpenClaim := { program := "ytoljnbbhoeloeaa", sum := "df5c9f828539d05a61b370c062c3860931f9397cf021a36c9b1887a6316afff3", func := "ostracon/ostraconlaw09.CopiesApplies", spec := "copiesApplies", unfollowed := true, recurses := true, apart := false, narrowed := true }
def CopiesAppliesUptoSaid : Prop := copiesAppliesUptoRow.holds Try.pinned (OpenSpec.upto copiesAppliesSpec)

/-- 'ostraconlaw09.CopiesRestore', WHERE WHAT IT READS IS OF BULK AT MOST 1048576: true; the input reads as it did. -/
def copiesRestoreUptoRow : OpenClaim := { program := "ytoljnbbhoeloeaa", sum := "df5c9f828539d05a61b370c062c3860931f9397cf021a36c9b1887a6316afff3", func := "ostracon/ostraconlaw09.CopiesRestore", spec := "copiesRestore", unfollowed := true, recurses := true, apart := false, narrowed := true }
def CopiesRestoreUptoSaid : Prop := copiesRestoreUptoRow.holds Try.pinned (OpenSpec.upto copiesRestoreSpec)

/-- 'ostraconlaw09.CopiesTells', WHERE WHAT IT READS IS OF BULK AT MOST 1048576: true; the input reads as it did. -/
def copiesTellsUptoRow : OpenClaim := { program := "ytoljnbbhoeloeaa", sum := "df5c9f828539d05a61b370c062c3860931f9397cf021a36c9b1887a6316afff3", func := "ostracon/ostraconlaw09.CopiesTells", spec := "copiesTells", unfollowed := true, recurses := true, apart := false, narrowed := true }
def CopiesTellsUptoSaid : Prop := copiesTellsUptoRow.holds Try.pinned (OpenSpec.upto copiesTellsSpec)

/-- 'ostraconlaw09.CopiesFits', WHERE WHAT IT READS IS OF BULK AT MOST 1048576: true; the input reads as it did. -/
def copiesFitsUptoRow : OpenClaim := { program := "ytoljnbbhoeloeaa", sum := "df5c9f828539d05a61b370c062c3860931f9397cf021a36c9b1887a6316afff3", func := "ostracon/ostraconlaw09.CopiesFits", spec := "copiesFits", unfollowed := true, recurses := true, apart := false, narrowed := true }
def CopiesFitsUptoSaid : Prop := copiesFitsUptoRow.holds Try.pinned (OpenSpec.upto copiesFitsSpec)

/-- 'ostraconlaw09.CopiesHands', WHERE WHAT IT READS IS OF BULK AT MOST 1048576: true; the input reads as it did. -/
def copiesHandsUptoRow : OpenClaim := { program := "ytoljnbbhoeloeaa", sum := "df5c9f828539d05a61b370c062c3860931f9397cf021a36c9b1887a6316afff3", func := "ostracon/ostraconlaw09.CopiesHands", spec := "copiesHands", unfollowed := true, recurses := true, apart := false, narrowed := true }
def CopiesHandsUptoSaid : Prop := copiesHandsUptoRow.holds Try.pinned (OpenSpec.upto copiesHandsSpec)

/-- 'ostraconlaw09.CopiesFewest', WHERE WHAT IT READS IS OF BULK AT MOST 1048576: true; the input reads as it did. -/
def copiesFewestUptoRow : OpenClaim := { program := "ytoljnbbhoeloeaa", sum := "df5c9f828539d05a61b370c062c3860931f9397cf021a36c9b1887a6316afff3", func := "ostracon/ostraconlaw09.CopiesFewest", spec := "copiesFewest", unfollowed := true, recurses := true, apart := false, narrowed := true }
def CopiesFewestUptoSaid : Prop := copiesFewestUptoRow.holds Try.pinned (OpenSpec.upto copiesFewestSpec)

/-- 'ostraconlaw09.CopiesRows', WHERE WHAT IT READS IS OF BULK AT MOST 1048576: true; the input reads as it did. -/
def copiesRowsUptoRow : OpenClaim := { program := "ytoljnbbhoeloeaa", sum := "df5c9f828539d05a61b370c062c3860931f9397cf021a36c9b1887a6316afff3", func := "ostracon/ostraconlaw09.CopiesRows", spec := "copiesRows", unfollowed := true, recurses := true, apart := false, narrowed := true }
def CopiesRowsUptoSaid : Prop := copiesRowsUptoRow.holds Try.pinned (OpenSpec.upto copiesRowsSpec)

/-- 'ostraconlaw09.CopiesJoins', WHERE WHAT IT READS IS OF BULK AT MOST 1048576: true; the input reads as it did. -/
def copiesJoinsUptoRow : OpenClaim := { program := "ytoljnbbhoeloeaa", sum := "df5c9f828539d05a61b370c062c3860931f9397cf021a36c9b1887a6316afff3", func := "ostracon/ostraconlaw09.CopiesJoins", spec := "copiesJoins", unfollowed := true, recurses := true, apart := false, narrowed := true }
def CopiesJoinsUptoSaid : Prop := copiesJoinsUptoRow.holds Try.pinned (OpenSpec.upto copiesJoinsSpec)

/-- 'ostraconlaw09.CopiesShuffled', WHERE WHAT IT READS IS OF BULK AT MOST 1048576: true; the input reads as it did. -/
def copiesShuffledUptoRow : OpenClaim := { program := "ytoljnbbhoeloeaa", sum := "df5c9f828539d05a61b370c062c3860931f9397cf021a36c9b1887a6316afff3", func := "ostracon/ostraconlaw09.CopiesShuffled", spec := "copiesShuffled", unfollowed := true, recurses := true, apart := false, narrowed := true }
def CopiesShuffledUptoSaid : Prop := copiesShuffledUptoRow.holds Try.pinned (OpenSpec.upto copiesShuffledSpec)

end Rows
end Go.Proofs.Ytoljnbbhoeloeaa
