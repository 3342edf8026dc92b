/- The error of a node by itself: groups.first, ostraconref02.own. -/
import Derived.Test.YtaoddenadfmdbaaSgn
import Derived.Test.YtaoddenadfmdbaaUtil
import Derived.BigRegion
import Derived.Outline
import Derived.Deep.DeepCutAuto
namespace Go.Proofs.Ytaoddenadfmdbaa
open Go.RowKit
theorem cell_old {w : World} {o : Obj} {p : Addr} {u : Value} (h : w.cell? p = some u) : (w.alloc o).cell? p = some u :=
  (World.cell?_alloc_lt w o p (World.block_lt_of_cell? _ _ h)).trans h
theorem cell_here {w : World} {cs : Array Value} {T : TypeId} {n j : Nat} {u : Value} (hn : n = w.heap.size) (h : cs[j]? = some u) : (w.alloc (.cells cs T)).cell? ⟨n, j, none⟩ = some u := by
  subst hn
  rw [World.cell?_alloc_new]
  exact h
end Go.Proofs.Ytaoddenadfmdbaa
