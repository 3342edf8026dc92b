/-
  No cell of these rows narrows 'for every input' (looked for: loops, veiled, ifaces, maps, wideKeys, modest, calm, conditions, laid).
  DERIVED. THE GIVEN ROWS OF THIS SEAT. 12 by the template 'for every input the law returns true; each argument reads behind the call as it read before'; 0 by the template 'total and deterministic' (their statements: YtddbnggficlcfaaTotals.lean).
  GIVEN WITH THE SEED: the statements are not yours to turn. If you find one false, say at which input.
  Laid BY PROGRAM, IN A SANDBOX (cutbox-rows.mjs): the forced cells as the released guide's own fill.sh prints them over the translation fa77c81fe1354e7c… (all of the seat's roots in one cut). By AI agents, Wed Nov 11 2026. No macro, syntax, notation, axiom, sorry.
-/
import Derived.Test.YtddbnggficlcfaaChecked
import GoSem.Claim
import GoSem.ClaimJoined
import GoSem.ClaimMapViews
import Derived.JoinedTies
import Derived.KernelRfl
namespace Go.Proofs.Ytddbnggficlcfaa
/- THE CELL 'sum', in the pinned program and in every row, IS THE sha256 OF THE DUMP (.gsa) THAT YtddbnggficlcfaaProg.lean LOADS. Nothing in Lean hashes anything: it is a label: what it is worth is what the hold of that sum in a sandbox is worth. -/
noncomputable def Try.pinned : Pinned := { name := "ytddbnggficlcfaa", sum := "fa77c81fe1354e7ccc9595ffe114daee43faceae14ef98514301e0fdbe0c9fa4", checked := Try.checked }
namespace Rows
def none {H : Type} : Left H := { results := [], args := [] }

/-- 'ostraconlaw02.GroupsChecks': WHATEVER THE INPUT: true; the input reads as it did. -/
def groupsChecksSpec : ChangeSpec := { name := "groupsChecks", fn := fun _ => fun
  | [d] => { results := [.lit (.bool true)], args := [d] }
  | _ => none }
def groupsChecksRow : OpenClaim := { program := "ytddbnggficlcfaa", sum := "fa77c81fe1354e7ccc9595ffe114daee43faceae14ef98514301e0fdbe0c9fa4", func := "ostracon/ostraconlaw02.GroupsChecks", spec := "groupsChecks", unfollowed := true, recurses := true, apart := false }
def GroupsChecksSaid : Prop := groupsChecksRow.holds Try.pinned (OpenSpec.ofChange groupsChecksSpec)

/-- ITS FALSE NEIGHBOUR: 'it returns false'. Refute it at one input. -/
def groupsChecksWrong : ChangeSpec := { name := "groupsChecks", fn := fun _ => fun
  | [d] => { results := [.lit (.bool false)], args := [d] }
  | _ => none }
def GroupsChecksWrongFalsely : Prop := groupsChecksRow.holds Try.pinned (OpenSpec.ofChange groupsChecksWrong)

/-- 'ostraconlaw02.GroupsKids': WHATEVER THE INPUT: true; the input reads as it did. -/
def groupsKidsSpec : ChangeSpec := { name := "groupsKids", fn := fun _ => fun
  | [d1, d2] => { results := [.lit (.bool true)], args := [d1, d2] }
  | _ => none }
def groupsKidsRow : OpenClaim := { program := "ytddbnggficlcfaa", sum := "fa77c81fe1354e7ccc9595ffe114daee43faceae14ef98514301e0fdbe0c9fa4", func := "ostracon/ostraconlaw02.GroupsKids", spec := "groupsKids", unfollowed := true, recurses := true, apart := false }
def GroupsKidsSaid : Prop := groupsKidsRow.holds Try.pinned (OpenSpec.ofChange groupsKidsSpec)

/-- ITS FALSE NEIGHBOUR: 'it returns false'. Refute it at one input. -/
def groupsKidsWrong : ChangeSpec := { name := "groupsKids", fn := fun _ => fun
  | [d1, d2] => { results := [.lit (.bool false)], args := [d1, d2] }
  | _ => none }
def GroupsKidsWrongFalsely : Prop := groupsKidsRow.holds Try.pinned (OpenSpec.ofChange groupsKidsWrong)

/-- 'ostraconlaw02.GroupsLines': WHATEVER THE INPUT: true; the input reads as it did. -/
def groupsLinesSpec : ChangeSpec := { name := "groupsLines", fn := fun _ => fun
  | [d] => { results := [.lit (.bool true)], args := [d] }
  | _ => none }
def groupsLinesRow : OpenClaim := { program := "ytddbnggficlcfaa", sum := "fa77c81fe1354e7ccc9595ffe114daee43faceae14ef98514301e0fdbe0c9fa4", func := "ostracon/ostraconlaw02.GroupsLines", spec := "groupsLines", unfollowed := true, recurses := true, apart := false }
def GroupsLinesSaid : Prop := groupsLinesRow.holds Try.pinned (OpenSpec.ofChange groupsLinesSpec)

/-- ITS FALSE NEIGHBOUR: 'it returns false'. Refute it at one input. -/
def groupsLinesWrong : ChangeSpec := { name := "groupsLines", fn := fun _ => fun
  | [d] => { results := [.lit (.bool false)], args := [d] }
  | _ => none }
def GroupsLinesWrongFalsely : Prop := groupsLinesRow.holds Try.pinned (OpenSpec.ofChange groupsLinesWrong)

/-- 'ostraconlaw02.GroupsSplices': WHATEVER THE INPUT: true; the input reads as it did. -/
def groupsSplicesSpec : ChangeSpec := { name := "groupsSplices", fn := fun _ => fun
  | [d1, d2] => { results := [.lit (.bool true)], args := [d1, d2] }
  | _ => none }
def groupsSplicesRow : OpenClaim := { program := "ytddbnggficlcfaa", sum := "fa77c81fe1354e7ccc9595ffe114daee43faceae14ef98514301e0fdbe0c9fa4", func := "ostracon/ostraconlaw02.GroupsSplices", spec := "groupsSplices", unfollowed := true, recurses := true, apart := false }
def GroupsSplicesSaid : Prop := groupsSplicesRow.holds Try.pinned (OpenSpec.ofChange groupsSplicesSpec)

/-- ITS FALSE NEIGHBOUR: 'it returns false'. Refute it at one input. -/
def groupsSplicesWrong : ChangeSpec := { name := "groupsSplices", fn := fun _ => fun
  | [d1, d2] => { results := [.lit (.bool false)], args := [d1, d2] }
  | _ => none }
def GroupsSplicesWrongFalsely : Prop := groupsSplicesRow.holds Try.pinned (OpenSpec.ofChange groupsSplicesWrong)

/-- 'ostraconlaw02.GroupsCompared': WHATEVER THE INPUT: true; the input reads as it did. -/
def groupsComparedSpec : ChangeSpec := { name := "groupsCompared", fn := fun _ => fun
  | [d1, d2] => { results := [.lit (.bool true)], args := [d1, d2] }
  | _ => none }
def groupsComparedRow : OpenClaim := { program := "ytddbnggficlcfaa", sum := "fa77c81fe1354e7ccc9595ffe114daee43faceae14ef98514301e0fdbe0c9fa4", func := "ostracon/ostraconlaw02.GroupsCompared", spec := "groupsCompared", unfollowed := true, recurses := true, apart := false }
def GroupsComparedSaid : Prop := groupsComparedRow.holds Try.pinned (OpenSpec.ofChange groupsComparedSpec)

/-- ITS FALSE NEIGHBOUR: 'it returns false'. Refute it at one input. -/
def groupsComparedWrong : ChangeSpec := { name := "groupsCompared", fn := fun _ => fun
  | [d1, d2] => { results := [.lit (.bool false)], args := [d1, d2] }
  | _ => none }
def GroupsComparedWrongFalsely : Prop := groupsComparedRow.holds Try.pinned (OpenSpec.ofChange groupsComparedWrong)

/-- 'ostraconlaw02.GroupsSubs': WHATEVER THE INPUT: true; the input reads as it did. -/
def groupsSubsSpec : ChangeSpec := { name := "groupsSubs", fn := fun _ => fun
  | [d1, d2] => { results := [.lit (.bool true)], args := [d1, d2] }
  | _ => none }
def groupsSubsRow : OpenClaim := { program := "ytddbnggficlcfaa", sum := "fa77c81fe1354e7ccc9595ffe114daee43faceae14ef98514301e0fdbe0c9fa4", func := "ostracon/ostraconlaw02.GroupsSubs", spec := "groupsSubs", unfollowed := true, recurses := true, apart := false }
def GroupsSubsSaid : Prop := groupsSubsRow.holds Try.pinned (OpenSpec.ofChange groupsSubsSpec)

/-- ITS FALSE NEIGHBOUR: 'it returns false'. Refute it at one input. -/
def groupsSubsWrong : ChangeSpec := { name := "groupsSubs", fn := fun _ => fun
  | [d1, d2] => { results := [.lit (.bool false)], args := [d1, d2] }
  | _ => none }
def GroupsSubsWrongFalsely : Prop := groupsSubsRow.holds Try.pinned (OpenSpec.ofChange groupsSubsWrong)

/-- 'ostraconlaw02.GroupsPlain': WHATEVER THE INPUT: true; the input reads as it did. -/
def groupsPlainSpec : ChangeSpec := { name := "groupsPlain", fn := fun _ => fun
  | [d] => { results := [.lit (.bool true)], args := [d] }
  | _ => none }
def groupsPlainRow : OpenClaim := { program := "ytddbnggficlcfaa", sum := "fa77c81fe1354e7ccc9595ffe114daee43faceae14ef98514301e0fdbe0c9fa4", func := "ostracon/ostraconlaw02.GroupsPlain", spec := "groupsPlain", unfollowed := true, recurses := true, apart := false }
def GroupsPlainSaid : Prop := groupsPlainRow.holds Try.pinned (OpenSpec.ofChange groupsPlainSpec)

/-- ITS FALSE NEIGHBOUR: 'it returns false'. Refute it at one input. -/
def groupsPlainWrong : ChangeSpec := { name := "groupsPlain", fn := fun _ => fun
  | [d] => { results := [.lit (.bool false)], args := [d] }
  | _ => none }
def GroupsPlainWrongFalsely : Prop := groupsPlainRow.holds Try.pinned (OpenSpec.ofChange groupsPlainWrong)

/-- 'ostraconlaw02.GroupsRestored': WHATEVER THE INPUT: true; the input reads as it did. -/
def groupsRestoredSpec : ChangeSpec := { name := "groupsRestored", fn := fun _ => fun
  | [d1, d2, d3] => { results := [.lit (.bool true)], args := [d1, d2, d3] }
  | _ => none }
def groupsRestoredRow : OpenClaim := { program := "ytddbnggficlcfaa", sum := "fa77c81fe1354e7ccc9595ffe114daee43faceae14ef98514301e0fdbe0c9fa4", func := "ostracon/ostraconlaw02.GroupsRestored", spec := "groupsRestored", unfollowed := true, recurses := true, apart := false }
def GroupsRestoredSaid : Prop := groupsRestoredRow.holds Try.pinned (OpenSpec.ofChange groupsRestoredSpec)

/-- ITS FALSE NEIGHBOUR: 'it returns false'. Refute it at one input. -/
def groupsRestoredWrong : ChangeSpec := { name := "groupsRestored", fn := fun _ => fun
  | [d1, d2, d3] => { results := [.lit (.bool false)], args := [d1, d2, d3] }
  | _ => none }
def GroupsRestoredWrongFalsely : Prop := groupsRestoredRow.holds Try.pinned (OpenSpec.ofChange groupsRestoredWrong)

/-- 'ostraconlaw02.GroupsInOrder': WHATEVER THE INPUT: true; the input reads as it did. -/
def groupsInOrderSpec : ChangeSpec := { name := "groupsInOrder", fn := fun _ => fun
  | [d1, d2] => { results := [.lit (.bool true)], args := [d1, d2] }
  | _ => none }
def groupsInOrderRow : OpenClaim := { program := "ytddbnggficlcfaa", sum := "fa77c81fe1354e7ccc9595ffe114daee43faceae14ef98514301e0fdbe0c9fa4", func := "ostracon/ostraconlaw02.GroupsInOrder", spec := "groupsInOrder", unfollowed := true, recurses := true, apart := false }
def GroupsInOrderSaid : Prop := groupsInOrderRow.holds Try.pinned (OpenSpec.ofChange groupsInOrderSpec)

/-- ITS FALSE NEIGHBOUR: 'it returns false'. Refute it at one input. -/
def groupsInOrderWrong : ChangeSpec := { name := "groupsInOrder", fn := fun _ => fun
  | [d1, d2] => { results := [.lit (.bool false)], args := [d1, d2] }
  | _ => none }
def GroupsInOrderWrongFalsely : Prop := groupsInOrderRow.holds Try.pinned (OpenSpec.ofChange groupsInOrderWrong)

/-- 'ostraconlaw02.GroupsTallies': WHATEVER THE INPUT: true; the input reads as it did. -/
def groupsTalliesSpec : ChangeSpec := { name := "groupsTallies", fn := fun _ => fun
  | [d] => { results := [.lit (.bool true)], args := [d] }
  | _ => none }
def groupsTalliesRow : OpenClaim := { program := "ytddbnggficlcfaa", sum := "fa77c81fe1354e7ccc9595ffe114daee43faceae14ef98514301e0fdbe0c9fa4", func := "ostracon/ostraconlaw02.GroupsTallies", spec := "groupsTallies", unfollowed := true, recurses := true, apart := false }
def GroupsTalliesSaid : Prop := groupsTalliesRow.holds Try.pinned (OpenSpec.ofChange groupsTalliesSpec)

/-- ITS FALSE NEIGHBOUR: 'it returns false'. Refute it at one input. -/
def groupsTalliesWrong : ChangeSpec := { name := "groupsTallies", fn := fun _ => fun
  | [d] => { results := [.lit (.bool false)], args := [d] }
  | _ => none }
def GroupsTalliesWrongFalsely : Prop := groupsTalliesRow.holds Try.pinned (OpenSpec.ofChange groupsTalliesWrong)

/-- 'ostraconlaw02.GroupsReads': WHATEVER THE INPUT: true; the input reads as it did. -/
def groupsReadsSpec : ChangeSpec := { name := "groupsReads", fn := fun _ => fun
  | [d] => { results := [.lit (.bool true)], args := [d] }
  | _ => none }
def groupsReadsRow : OpenClaim := { program := "ytddbnggficlcfaa", sum := "fa77c81fe1354e7ccc9595ffe114daee43faceae14ef98514301e0fdbe0c9fa4", func := "ostracon/ostraconlaw02.GroupsReads", spec := "groupsReads", unfollowed := true, recurses := true, apart := false }
def GroupsReadsSaid : Prop := groupsReadsRow.holds Try.pinned (OpenSpec.ofChange groupsReadsSpec)

/-- ITS FALSE NEIGHBOUR: 'it returns false'. Refute it at one input. -/
def groupsReadsWrong : ChangeSpec := { name := "groupsReads", fn := fun _ => fun
  | [d] => { results := [.lit (.bool false)], args := [d] }
  | _ => none }
def GroupsReadsWrongFalsely : Prop := groupsReadsRow.holds Try.pinned (OpenSpec.ofChange groupsReadsWrong)

/-- 'ostraconlaw02.GroupsTwice': WHATEVER THE INPUT: true; the input reads as it did. -/
def groupsTwiceSpec : ChangeSpec := { name := "groupsTwice", fn := fun _ => fun
  | [d] => { results := [.lit (.bool true)], args := [d] }
  | _ => none }
def groupsTwiceRow : OpenClaim := { program := "ytddbnggficlcfaa", sum := "fa77c81fe1354e7ccc9595ffe114daee43faceae14ef98514301e0fdbe0c9fa4", func := "ostracon/ostraconlaw02.GroupsTwice", spec := "groupsTwice", unfollowed := true, recurses := true, apart := false }
def GroupsTwiceSaid : Prop := groupsTwiceRow.holds Try.pinned (OpenSpec.ofChange groupsTwiceSpec)

/-- ITS FALSE NEIGHBOUR: 'it returns false'. Refute it at one input. -/
def groupsTwiceWrong : ChangeSpec := { name := "groupsTwice", fn := fun _ => fun
  | [d] => { results := [.lit (.bool false)], args := [d] }
  | _ => none }
def GroupsTwiceWrongFalsely : Prop := groupsTwiceRow.holds Try.pinned (OpenSpec.ofChange groupsTwiceWrong)

/- THE SECOND FORM. 'bulk': how many values and letters a reading holds, each counted each time it is reached (what is shared counts as often as it is met; a slice's spare places count too). A statement '..UptoSaid' is the law's where the arguments, and the package variables that the reading takes, are together of bulk at most 1048576: NARROWER than '..Said'. Prove '..Said' where nothing that the law and all that it calls make is longer than what came in: it says more and counts as full. Else prove '..UptoSaid'. A law counts once. -/
mutual
def uptoBulk {H : Type} : DataW H → Nat
  | .lit (.string bytes) => bytes.length + 1
  | .lit _ => 1
  | .nil => 1
  | .ptr d => uptoBulk d + 1
  | .slice elems spare => uptoBulkAll elems + uptoBulkAll spare + 1
  | .agg parts => uptoBulkAll parts + 1
  | .iface _ d => uptoBulk d + 1
  | .map entries => uptoBulkEntries entries + 1
  | .held _ => 1
def uptoBulkAll {H : Type} : List (DataW H) → Nat
  | [] => 0
  | d :: r => uptoBulk d + uptoBulkAll r
def uptoBulkEntries {H : Type} : List (Lit × DataW H) → Nat
  | [] => 0
  | x :: r => uptoBulkEntry x + uptoBulkEntries r
def uptoBulkEntry {H : Type} : Lit × DataW H → Nat
  | (.string bytes, d) => bytes.length + uptoBulk d + 1
  | (_, d) => uptoBulk d + 1
 end
def uptoSmall : (H : Type) → List (DataW H) → Bool := fun _ ds => decide (uptoBulkAll ds ≤ 1048576)
def OpenSpec.upto (s : _root_.Go.ChangeSpec) : _root_.Go.OpenSpec := { _root_.Go.OpenSpec.ofChange s with cond := some uptoSmall }

/-- 'ostraconlaw02.GroupsChecks', WHERE WHAT IT READS IS OF BULK AT MOST 1048576: true; the input reads as it did. -/
def groupsChecksUptoRow : OpenClaim := { program := "ytddbnggficlcfaa", sum := "fa77c81fe1354e7ccc9595ffe114daee43faceae14ef98514301e0fdbe0c9fa4", func := "ostracon/ostraconlaw02.GroupsChecks", spec := "groupsChecks", unfollowed := true, recurses := true, apart := false, narrowed := true }
def GroupsChecksUptoSaid : Prop := groupsChecksUptoRow.holds Try.pinned (OpenSpec.upto groupsChecksSpec)

/-- 'ostraconlaw02.GroupsKids', WHERE WHAT IT READS IS OF BULK AT MOST 1048576: true; the input reads as it did. -/
def groupsKidsUptoRow : OpenClaim := { program := "ytddbnggficlcfaa", sum := "fa77c81fe1354e7ccc9595ffe114daee43faceae14ef98514301e0fdbe0c9fa4", func := "ostracon/ostraconlaw02.GroupsKids", spec := "groupsKids", unfollowed := true, recurses := true, apart := false, narrowed := true }
def GroupsKidsUptoSaid : Prop := groupsKidsUptoRow.holds Try.pinned (OpenSpec.upto groupsKidsSpec)

/-- 'ostraconlaw02.GroupsLines', WHERE WHAT IT READS IS OF BULK AT MOST 1048576: true; the input reads as it did. -/
def groupsLinesUptoRow : OpenClaim := { program := "ytddbnggficlcfaa", sum := "fa77c81fe1354e7ccc9595ffe114daee43faceae14ef98514301e0fdbe0c9fa4", func := "ostracon/ostraconlaw02.GroupsLines", spec := "groupsLines", unfollowed := true, recurses := true, apart := false, narrowed := true }
def GroupsLinesUptoSaid : Prop := groupsLinesUptoRow.holds Try.pinned (OpenSpec.upto groupsLinesSpec)

/-- 'ostraconlaw02.GroupsSplices', WHERE WHAT IT READS IS OF BULK AT MOST 1048576: true; the input reads as it did. -/
def groupsSplicesUptoRow : OpenClaim := { program := "ytddbnggficlcfaa", sum := "fa77c81fe1354e7ccc9595ffe114daee43faceae14ef98514301e0fdbe0c9fa4", func := "ostracon/ostraconlaw02.GroupsSplices", spec := "groupsSplices", unfollowed := true, recurses := true, apart := false, narrowed := true }
def GroupsSplicesUptoSaid : Prop := groupsSplicesUptoRow.holds Try.pinned (OpenSpec.upto groupsSplicesSpec)

/-- 'ostraconlaw02.GroupsCompared', WHERE WHAT IT READS IS OF BULK AT MOST 1048576: true; the input reads as it did. -/
def groupsComparedUptoRow : OpenClaim := { program := "ytddbnggficlcfaa", sum := "fa77c81fe1354e7ccc9595ffe114daee43faceae14ef98514301e0fdbe0c9fa4", func := "ostracon/ostraconlaw02.GroupsCompared", spec := "groupsCompared", unfollowed := true, recurses := true, apart := false, narrowed := true }
def GroupsComparedUptoSaid : Prop := groupsComparedUptoRow.holds Try.pinned (OpenSpec.upto groupsComparedSpec)

/-- 'ostraconlaw02.GroupsSubs', WHERE WHAT IT READS IS OF BULK AT MOST 1048576: true; the input reads as it did. -/
def groupsSubsUptoRow : OpenClaim := { program := "ytddbnggficlcfaa", sum := "fa77c81fe1354e7ccc9595ffe114daee43faceae14ef98514301e0fdbe0c9fa4", func := "ostracon/ostraconlaw02.GroupsSubs", spec := "groupsSubs", unfollowed := true, recurses := true, apart := false, narrowed := true }
def GroupsSubsUptoSaid : Prop := groupsSubsUptoRow.holds Try.pinned (OpenSpec.upto groupsSubsSpec)

/-- 'ostraconlaw02.GroupsPlain', WHERE WHAT IT READS IS OF BULK AT MOST 1048576: true; the input reads as it did. -/
def groupsPlainUptoRow : OpenClaim := { program := "ytddbnggficlcfaa", sum := "fa77c81fe1354e7ccc9595ffe114daee43faceae14ef98514301e0fdbe0c9fa4", func := "ostracon/ostraconlaw02.GroupsPlain", spec := "groupsPlain", unfollowed := true, recurses := true, apart := false, narrowed := true }
def GroupsPlainUptoSaid : Prop := groupsPlainUptoRow.holds Try.pinned (OpenSpec.upto groupsPlainSpec)

/-- 'ostraconlaw02.GroupsRestored', WHERE WHAT IT READS IS OF BULK AT MOST 1048576: true; the input reads as it did. -/
def groupsRestoredUptoRow : OpenClaim := { program := "ytddbnggficlcfaa", sum := "fa77c81fe1354e7ccc9595ffe114daee43faceae14ef98514301e0fdbe0c9fa4", func := "ostracon/ostraconlaw02.GroupsRestored", spec := "groupsRestored", unfollowed := true, recurses := true, apart := false, narrowed := true }
def GroupsRestoredUptoSaid : Prop := groupsRestoredUptoRow.holds Try.pinned (OpenSpec.upto groupsRestoredSpec)

/-- 'ostraconlaw02.GroupsInOrder', WHERE WHAT IT READS IS OF BULK AT MOST 1048576: true; the input reads as it did. -/
def groupsInOrderUptoRow : OpenClaim := { program := "ytddbnggficlcfaa", sum := "fa77c81fe1354e7ccc9595ffe114daee43faceae14ef98514301e0fdbe0c9fa4", func := "ostracon/ostraconlaw02.GroupsInOrder", spec := "groupsInOrder", unfollowed := true, recurses := true, apart := false, narrowed := true }
def GroupsInOrderUptoSaid : Prop := groupsInOrderUptoRow.holds Try.pinned (OpenSpec.upto groupsInOrderSpec)

/-- 'ostraconlaw02.GroupsTallies', WHERE WHAT IT READS IS OF BULK AT MOST 1048576: true; the input reads as it did. -/
def groupsTalliesUptoRow : OpenClaim := { program := "ytddbnggficlcfaa", sum := "fa77c81fe1354e7ccc9595ffe114daee43faceae14ef98514301e0fdbe0c9fa4", func := "ostracon/ostraconlaw02.GroupsTallies", spec := "groupsTallies", unfollowed := true, recurses := true, apart := false, narrowed := true }
def GroupsTalliesUptoSaid : Prop := groupsTalliesUptoRow.holds Try.pinned (OpenSpec.upto groupsTalliesSpec)

/-- 'ostraconlaw02.GroupsReads', WHERE WHAT IT READS IS OF BULK AT MOST 1048576: true; the input reads as it did. -/
def groupsReadsUptoRow : OpenClaim := { program := "ytddbnggficlcfaa", sum := "fa77c81fe1354e7ccc9595ffe114daee43faceae14ef98514301e0fdbe0c9fa4", func := "ostracon/ostraconlaw02.GroupsReads", spec := "groupsReads", unfollowed := true, recurses := true, apart := false, narrowed := true }
def GroupsReadsUptoSaid : Prop := groupsReadsUptoRow.holds Try.pinned (OpenSpec.upto groupsReadsSpec)

/-- 'ostraconlaw02.GroupsTwice', WHERE WHAT IT READS IS OF BULK AT MOST 1048576: true; the input reads as it did. -/
def groupsTwiceUptoRow : OpenClaim := { program := "ytddbnggficlcfaa", sum := "fa77c81fe1354e7ccc9595ffe114daee43faceae14ef98514301e0fdbe0c9fa4", func := "ostracon/ostraconlaw02.GroupsTwice", spec := "groupsTwice", unfollowed := true, recurses := true, apart := false, narrowed := true }
def GroupsTwiceUptoSaid : Prop := groupsTwiceUptoRow.holds Try.pinned (OpenSpec.upto groupsTwiceSpec)

end Rows
end Go.Proofs.Ytddbnggficlcfaa
