/-
  No cell of these rows narrows 'for every input' (looked for: loops, veiled, ifaces, maps, wideKeys, modest, calm, conditions, laid).
  DERIVED. THE GIVEN ROWS OF THIS SEAT. 7 by the template 'for every input the law returns true; each argument reads behind the call as it read before'; 0 by the template 'total and deterministic' (their statements: YtfkcpcdndleboaaTotals.lean).
  GIVEN WITH THE SEED: the statements are not yours to turn. If you find one false, say at which input.
  Laid BY PROGRAM, IN A SANDBOX (cutbox-rows.mjs): the forced cells as the released guide's own fill.sh prints them over the translation b2e39f90d126539a… (all of the seat's roots in one cut). By AI agents, Wed Nov 11 2026. No macro, syntax, notation, axiom, sorry.
-/
import Derived.Test.YtfkcpcdndleboaaChecked
import GoSem.Claim
import GoSem.ClaimJoined
import GoSem.ClaimMapViews
import Derived.JoinedTies
import Derived.KernelRfl
namespace Go.Proofs.Ytfkcpcdndleboaa
/- THE CELL 'sum', in the pinned program and in every row, IS THE sha256 OF THE DUMP (.gsa) THAT YtfkcpcdndleboaaProg.lean LOADS. Nothing in Lean hashes anything: it is a label: what it is worth is what the hold of that sum in a sandbox is worth. -/
noncomputable def Try.pinned : Pinned := { name := "ytfkcpcdndleboaa", sum := "b2e39f90d126539a671e79d1a632e701c62938b8a5ba91f3b9f402ca49c0e704", checked := Try.checked }
namespace Rows
def none {H : Type} : Left H := { results := [], args := [] }

/-- 'ostraconlaw04.GridLays': WHATEVER THE INPUT: true; the input reads as it did. -/
def gridLaysSpec : ChangeSpec := { name := "gridLays", fn := fun _ => fun
  | [d1, d2] => { results := [.lit (.bool true)], args := [d1, d2] }
  | _ => none }
def gridLaysRow : OpenClaim := { program := "ytfkcpcdndleboaa", sum := "b2e39f90d126539a671e79d1a632e701c62938b8a5ba91f3b9f402ca49c0e704", func := "ostracon/ostraconlaw04.GridLays", spec := "gridLays", unfollowed := true, recurses := true, apart := false }
def GridLaysSaid : Prop := gridLaysRow.holds Try.pinned (OpenSpec.ofChange gridLaysSpec)

/-- ITS FALSE NEIGHBOUR: 'it returns false'. Refute it at one input. -/
def gridLaysWrong : ChangeSpec := { name := "gridLays", fn := fun _ => fun
  | [d1, d2] => { results := [.lit (.bool false)], args := [d1, d2] }
  | _ => none }
def GridLaysWrongFalsely : Prop := gridLaysRow.holds Try.pinned (OpenSpec.ofChange gridLaysWrong)

/-- 'ostraconlaw04.GridStands': WHATEVER THE INPUT: true; the input reads as it did. -/
def gridStandsSpec : ChangeSpec := { name := "gridStands", fn := fun _ => fun
  | [d1, d2] => { results := [.lit (.bool true)], args := [d1, d2] }
  | _ => none }
def gridStandsRow : OpenClaim := { program := "ytfkcpcdndleboaa", sum := "b2e39f90d126539a671e79d1a632e701c62938b8a5ba91f3b9f402ca49c0e704", func := "ostracon/ostraconlaw04.GridStands", spec := "gridStands", unfollowed := true, recurses := true, apart := false }
def GridStandsSaid : Prop := gridStandsRow.holds Try.pinned (OpenSpec.ofChange gridStandsSpec)

/-- ITS FALSE NEIGHBOUR: 'it returns false'. Refute it at one input. -/
def gridStandsWrong : ChangeSpec := { name := "gridStands", fn := fun _ => fun
  | [d1, d2] => { results := [.lit (.bool false)], args := [d1, d2] }
  | _ => none }
def GridStandsWrongFalsely : Prop := gridStandsRow.holds Try.pinned (OpenSpec.ofChange gridStandsWrong)

/-- 'ostraconlaw04.GridLess': WHATEVER THE INPUT: true; the input reads as it did. -/
def gridLessSpec : ChangeSpec := { name := "gridLess", fn := fun _ => fun
  | [d1, d2] => { results := [.lit (.bool true)], args := [d1, d2] }
  | _ => none }
def gridLessRow : OpenClaim := { program := "ytfkcpcdndleboaa", sum := "b2e39f90d126539a671e79d1a632e701c62938b8a5ba91f3b9f402ca49c0e704", func := "ostracon/ostraconlaw04.GridLess", spec := "gridLess", unfollowed := true, recurses := true, apart := false }
def GridLessSaid : Prop := gridLessRow.holds Try.pinned (OpenSpec.ofChange gridLessSpec)

/-- ITS FALSE NEIGHBOUR: 'it returns false'. Refute it at one input. -/
def gridLessWrong : ChangeSpec := { name := "gridLess", fn := fun _ => fun
  | [d1, d2] => { results := [.lit (.bool false)], args := [d1, d2] }
  | _ => none }
def GridLessWrongFalsely : Prop := gridLessRow.holds Try.pinned (OpenSpec.ofChange gridLessWrong)

/-- 'ostraconlaw04.GridLines': WHATEVER THE INPUT: true; the input reads as it did. -/
def gridLinesSpec : ChangeSpec := { name := "gridLines", fn := fun _ => fun
  | [d1, d2] => { results := [.lit (.bool true)], args := [d1, d2] }
  | _ => none }
def gridLinesRow : OpenClaim := { program := "ytfkcpcdndleboaa", sum := "b2e39f90d126539a671e79d1a632e701c62938b8a5ba91f3b9f402ca49c0e704", func := "ostracon/ostraconlaw04.GridLines", spec := "gridLines", unfollowed := true, recurses := true, apart := false }
def GridLinesSaid : Prop := gridLinesRow.holds Try.pinned (OpenSpec.ofChange gridLinesSpec)

/-- ITS FALSE NEIGHBOUR: 'it returns false'. Refute it at one input. -/
def gridLinesWrong : ChangeSpec := { name := "gridLines", fn := fun _ => fun
  | [d1, d2] => { results := [.lit (.bool false)], args := [d1, d2] }
  | _ => none }
def GridLinesWrongFalsely : Prop := gridLinesRow.holds Try.pinned (OpenSpec.ofChange gridLinesWrong)

/-- 'ostraconlaw04.GridSizes': WHATEVER THE INPUT: true; the input reads as it did. -/
def gridSizesSpec : ChangeSpec := { name := "gridSizes", fn := fun _ => fun
  | [d1, d2, d3] => { results := [.lit (.bool true)], args := [d1, d2, d3] }
  | _ => none }
def gridSizesRow : OpenClaim := { program := "ytfkcpcdndleboaa", sum := "b2e39f90d126539a671e79d1a632e701c62938b8a5ba91f3b9f402ca49c0e704", func := "ostracon/ostraconlaw04.GridSizes", spec := "gridSizes", unfollowed := true, recurses := true, apart := false }
def GridSizesSaid : Prop := gridSizesRow.holds Try.pinned (OpenSpec.ofChange gridSizesSpec)

/-- ITS FALSE NEIGHBOUR: 'it returns false'. Refute it at one input. -/
def gridSizesWrong : ChangeSpec := { name := "gridSizes", fn := fun _ => fun
  | [d1, d2, d3] => { results := [.lit (.bool false)], args := [d1, d2, d3] }
  | _ => none }
def GridSizesWrongFalsely : Prop := gridSizesRow.holds Try.pinned (OpenSpec.ofChange gridSizesWrong)

/-- 'ostraconlaw04.GridExtents': WHATEVER THE INPUT: true; the input reads as it did. -/
def gridExtentsSpec : ChangeSpec := { name := "gridExtents", fn := fun _ => fun
  | [d] => { results := [.lit (.bool true)], args := [d] }
  | _ => none }
def gridExtentsRow : OpenClaim := { program := "ytfkcpcdndleboaa", sum := "b2e39f90d126539a671e79d1a632e701c62938b8a5ba91f3b9f402ca49c0e704", func := "ostracon/ostraconlaw04.GridExtents", spec := "gridExtents", unfollowed := true, recurses := true, apart := false }
def GridExtentsSaid : Prop := gridExtentsRow.holds Try.pinned (OpenSpec.ofChange gridExtentsSpec)

/-- ITS FALSE NEIGHBOUR: 'it returns false'. Refute it at one input. -/
def gridExtentsWrong : ChangeSpec := { name := "gridExtents", fn := fun _ => fun
  | [d] => { results := [.lit (.bool false)], args := [d] }
  | _ => none }
def GridExtentsWrongFalsely : Prop := gridExtentsRow.holds Try.pinned (OpenSpec.ofChange gridExtentsWrong)

/-- 'ostraconlaw04.GridHits': WHATEVER THE INPUT: true; the input reads as it did. -/
def gridHitsSpec : ChangeSpec := { name := "gridHits", fn := fun _ => fun
  | [d1, d2, d3] => { results := [.lit (.bool true)], args := [d1, d2, d3] }
  | _ => none }
def gridHitsRow : OpenClaim := { program := "ytfkcpcdndleboaa", sum := "b2e39f90d126539a671e79d1a632e701c62938b8a5ba91f3b9f402ca49c0e704", func := "ostracon/ostraconlaw04.GridHits", spec := "gridHits", unfollowed := true, recurses := true, apart := false }
def GridHitsSaid : Prop := gridHitsRow.holds Try.pinned (OpenSpec.ofChange gridHitsSpec)

/-- ITS FALSE NEIGHBOUR: 'it returns false'. Refute it at one input. -/
def gridHitsWrong : ChangeSpec := { name := "gridHits", fn := fun _ => fun
  | [d1, d2, d3] => { results := [.lit (.bool false)], args := [d1, d2, d3] }
  | _ => none }
def GridHitsWrongFalsely : Prop := gridHitsRow.holds Try.pinned (OpenSpec.ofChange gridHitsWrong)

/- THE SECOND FORM. 'bulk': how many values and letters a reading holds, each counted each time it is reached (what is shared counts as often as it is met; a slice's spare places count too). A statement '..UptoSaid' is the law's where the arguments, and the package variables that the reading takes, are together of bulk at most 1048576: NARROWER than '..Said'. Prove '..Said' where nothing that the law and all that it calls make is longer than what came in: it says more and counts as full. Else prove '..UptoSaid'. A law counts once. -/
mutual
def uptoBulk {H : Type} : DataW H → Nat
  | .lit (.string bytes) => bytes.length + 1
  | .lit _ => 1
  | .nil => 1
  | .ptr d => uptoBulk d + 1
  | .slice elems spare => uptoBulkAll elems + uptoBulkAll spare + 1
  | .agg parts => uptoBulkAll parts + 1
  | .iface _ d => uptoBulk d + 1
  | .map entries => uptoBulkEntries entries + 1
  | .held _ => 1
def uptoBulkAll {H : Type} : List (DataW H) → Nat
  | [] => 0
  | d :: r => uptoBulk d + uptoBulkAll r
def uptoBulkEntries {H : Type} : List (Lit × DataW H) → Nat
  | [] => 0
  | x :: r => uptoBulkEntry x + uptoBulkEntries r
def uptoBulkEntry {H : Type} : Lit × DataW H → Nat
  | (.string bytes, d) => bytes.length + uptoBulk d + 1
  | (_, d) => uptoBulk d + 1
 end
def uptoSmall : (H : Type) → List (DataW H) → Bool := fun _ ds => decide (uptoBulkAll ds ≤ 1048576)
def OpenSpec.upto (s : _root_.Go.ChangeSpec) : _root_.Go.OpenSpec := { _root_.Go.OpenSpec.ofChange s with cond := some uptoSmall }

/-- 'ostraconlaw04.GridLays', WHERE WHAT IT READS IS OF BULK AT MOST 1048576: true; the input reads as it did. -/
def gridLaysUptoRow : OpenClaim := { program := "ytfkcpcdndleboaa", sum := "b2e39f90d126539a671e79d1a632e701c62938b8a5ba91f3b9f402ca49c0e704", func := "ostracon/ostraconlaw04.GridLays", spec := "gridLays", unfollowed := true, recurses := true, apart := false, narrowed := true }
def GridLaysUptoSaid : Prop := gridLaysUptoRow.holds Try.pinned (OpenSpec.upto gridLaysSpec)

/-- 'ostraconlaw04.GridStands', WHERE WHAT IT READS IS OF BULK AT MOST 1048576: true; the input reads as it did. -/
def gridStandsUptoRow : OpenClaim := { program := "ytfkcpcdndleboaa", sum := "b2e39f90d126539a671e79d1a632e701c62938b8a5ba91f3b9f402ca49c0e704", func := "ostracon/ostraconlaw04.GridStands", spec := "gridStands", unfollowed := true, recurses := true, apart := false, narrowed := true }
def GridStandsUptoSaid : Prop := gridStandsUptoRow.holds Try.pinned (OpenSpec.upto gridStandsSpec)

/-- 'ostraconlaw04.GridLess', WHERE WHAT IT READS IS OF BULK AT MOST 1048576: true; the input reads as it did. -/
def gridLessUptoRow : OpenClaim := { program := "ytfkcpcdndleboaa", sum := "b2e39f90d126539a671e79d1a632e701c62938b8a5ba91f3b9f402ca49c0e704", func := "ostracon/ostraconlaw04.GridLess", spec := "gridLess", unfollowed := true, recurses := true, apart := false, narrowed := true }
def GridLessUptoSaid : Prop := gridLessUptoRow.holds Try.pinned (OpenSpec.upto gridLessSpec)

/-- 'ostraconlaw04.GridLines', WHERE WHAT IT READS IS OF BULK AT MOST 1048576: true; the input reads as it did. -/
def gridLinesUptoRow : OpenClaim := { program := "ytfkcpcdndleboaa", sum := "b2e39f90d126539a671e79d1a632e701c62938b8a5ba91f3b9f402ca49c0e704", func := "ostracon/ostraconlaw04.GridLines", spec := "gridLines", unfollowed := true, recurses := true, apart := false, narrowed := true }
def GridLinesUptoSaid : Prop := gridLinesUptoRow.holds Try.pinned (OpenSpec.upto gridLinesSpec)

/-- 'ostraconlaw04.GridSizes', WHERE WHAT IT READS IS OF BULK AT MOST 1048576: true; the input reads as it did. -/
def gridSizesUptoRow : OpenClaim := { program := "ytfkcpcdndleboaa", sum := "b2e39f90d126539a671e79d1a632e701c62938b8a5ba91f3b9f402ca49c0e704", func := "ostracon/ostraconlaw04.GridSizes", spec := "gridSizes", unfollowed := true, recurses := true, apart := false, narrowed := true }
def GridSizesUptoSaid : Prop := gridSizesUptoRow.holds Try.pinned (OpenSpec.upto gridSizesSpec)

/-- 'ostraconlaw04.GridExtents', WHERE WHAT IT READS IS OF BULK AT MOST 1048576: true; the input reads as it did. -/
def gridExtentsUptoRow : OpenClaim := { program := "ytfkcpcdndleboaa", sum := "b2e39f90d126539a671e79d1a632e701c62938b8a5ba91f3b9f402ca49c0e704", func := "ostracon/ostraconlaw04.GridExtents", spec := "gridExtents", unfollowed := true, recurses := true, apart := false, narrowed := true }
def GridExtentsUptoSaid : Prop := gridExtentsUptoRow.holds Try.pinned (OpenSpec.upto gridExtentsSpec)

/-- 'ostraconlaw04.GridHits', WHERE WHAT IT READS IS OF BULK AT MOST 1048576: true; the input reads as it did. -/
def gridHitsUptoRow : OpenClaim := { program := "ytfkcpcdndleboaa", sum := "b2e39f90d126539a671e79d1a632e701c62938b8a5ba91f3b9f402ca49c0e704", func := "ostracon/ostraconlaw04.GridHits", spec := "gridHits", unfollowed := true, recurses := true, apart := false, narrowed := true }
def GridHitsUptoSaid : Prop := gridHitsUptoRow.holds Try.pinned (OpenSpec.upto gridHitsSpec)

end Rows
end Go.Proofs.Ytfkcpcdndleboaa
