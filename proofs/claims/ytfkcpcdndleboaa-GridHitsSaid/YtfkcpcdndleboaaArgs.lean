/- The copies that a law hands to the program. -/
import Derived.Test.YtfkcpcdndleboaaTextL
import Derived.Test.YtfkcpcdndleboaaCopy
import Derived.Test.YtfkcpcdndleboaaBig
import Derived.Outline
import Derived.Test.YtfkcpcdndleboaaSameT
import Derived.Test.YtfkcpcdndleboaaCore
import Derived.Test.YtfkcpcdndleboaaChk1
import Derived.Deep.RegionHeld3
namespace Go.Proofs.Ytfkcpcdndleboaa
open Go.RowKit
/-- A copy of a list and a copy of a text. -/
structure Copies (ss : List Sg) (l : List Nd) (ss' : List Sg) (A3 A4 : Option Addr) (c3 c4 : Nat) (W : World) : Prop where
  sg : Sgs W W.heap.size A3 ss'
  core : ss'.map Sg.core = ss.map Sg.core
  cap : ∀ s ∈ ss', s.vals.length ≤ s.vc
  nd : Nds W W.heap.size A4 l
  room : l.length ≤ c4
theorem Copies.len {ss : List Sg} {l : List Nd} {ss' : List Sg} {A3 A4 : Option Addr} {c3 c4 : Nat} {W : World} (h : Copies ss l ss' A3 A4 c3 c4 W) : ss'.length = ss.length := core_len h.core
theorem Copies.vals {ss : List Sg} {l : List Nd} {ss' : List Sg} {A3 A4 : Option Addr} {c3 c4 : Nat} {W : World} (h : Copies ss l ss' A3 A4 c3 c4 W) (hv : ∀ s ∈ ss, s.vals.length ≤ 20) : ∀ s ∈ ss', s.vals.length ≤ 1000000 ∧ s.vals.length ≤ s.vc :=
  fun s hs => ⟨Nat.le_trans (vals_core h.core hv s hs) (by decide), h.cap s hs⟩
end Go.Proofs.Ytfkcpcdndleboaa
