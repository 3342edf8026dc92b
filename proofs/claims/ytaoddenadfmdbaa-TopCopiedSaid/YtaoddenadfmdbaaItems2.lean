/- MEMORY: a slice of structs of two numbers and a slice of numbers, on. -/
import Derived.Test.YtaoddenadfmdbaaStrW
import Derived.Test.YtaoddenadfmdbaaCheck
namespace Go.Proofs.Ytaoddenadfmdbaa
open Go.RowKit
section
variable {w w' : World} {base base' M : Nat} {e e' : TypeId} {v v' vo : Value} {es : List En} {t : En}
theorem grown_below (hb : Below w.heap.size w w') : w.grownBy w' none := ⟨hb.os, hb.tape, hb.output, hb.size, fun k hk _ => hb.block k hk⟩
theorem SAll.below (h : SAll w base e v es) (hb : Below w.heap.size w w') : SAll w' base e v es := by
  have hn : ∀ u : Value, u.ownBlock = none ∨ u.ownBlock ≠ none := fun u => by cases u.ownBlock <;> simp
  refine ⟨h.own.kept (grown_below hb) (hn _), fun t ht => ⟨(h.cl t ht).1.kept (grown_below hb) (hn _), fun g hg => Nat.lt_of_lt_of_le ((h.cl t ht).2 g hg) hb.size⟩, Nat.le_trans h.hB hb.size⟩
/-- While a row of another type grows. -/
theorem SAll.keptBy {size' n' : Nat} {xs' : List Value} (h : SAll w base e v es) (ho : w.ownsRow base' e' size' vo n' xs') (h1 : e ≠ e') (h2 : 3 ≠ e') (hg : w.grownBy w' vo.ownBlock) : SAll w' base e v es :=
  ⟨h.own.kept hg (own_ne h.own ho h1), fun t ht => ⟨(h.cl t ht).1.kept hg (own_ne (h.cl t ht).1 ho h2), fun g hg' => Nat.lt_of_lt_of_le ((h.cl t ht).2 g hg') hg.size⟩, Nat.le_trans h.hB hg.size⟩
/-- A new element, whose slice lies already. -/
theorem SAll.pushE (h : SAll w base e v es) (he : 3 ≠ e) (hs : w.ownsRow base 3 1 t.2.2.1 t.2.2.2.length (ints t.2.2.2)) (hown : w'.ownsRow base e 3 v' (es.length + 1) (cellsE es ++ [.int .i64 t.1, .int .i64 t.2.1, t.2.2.1])) (hg : w.grownBy w' v.ownBlock) :
    SAll w' base e v' (es ++ [t]) := by
  refine ⟨by rw [cellsE_snoc]; simpa using hown, fun u hu => ?_, Nat.le_trans h.hB hg.size⟩
  rcases List.mem_append.1 hu with hu | hu
  · exact ⟨(h.cl u hu).1.kept hg (own_ne (h.cl u hu).1 h.own he), fun g hg' => Nat.lt_of_lt_of_le ((h.cl u hu).2 g hg') hg.size⟩
  · obtain rfl := List.mem_singleton.1 hu
    exact ⟨hs.kept hg (own_ne hs h.own he), fun g hg' => Nat.lt_of_lt_of_le (hs.lt g hg').2 hg.size⟩
theorem cellsE_get : ∀ (es : List En) (k : Nat) (hk : k < es.length), (cellsE es)[k * 3]? = some (.int .i64 es[k].1) ∧ (cellsE es)[k * 3 + 1]? = some (.int .i64 es[k].2.1) ∧ (cellsE es)[k * 3 + 2]? = some es[k].2.2.1
  | t :: r, 0, _ => ⟨rfl, rfl, rfl⟩
  | t :: r, k + 1, h => by
    have := cellsE_get r k (by simpa using h)
    rw [show (k + 1) * 3 = k * 3 + 3 by omega, show k * 3 + 3 + 1 = k * 3 + 1 + 3 by omega, show k * 3 + 3 + 2 = k * 3 + 2 + 3 by omega]
    simpa [cellsE] using this
theorem SAll.at (h : SAll w base e v es) {k : Nat} (hk : k < es.length) : ∃ g c, v = .slice (some ⟨g, 0, none⟩) es.length c ∧ base ≤ g ∧ g < w.heap.size ∧ w.cell? ⟨g, k * 3, none⟩ = some (.int .i64 es[k].1) ∧ w.cell? ⟨g, k * 3 + 1, none⟩ = some (.int .i64 es[k].2.1) ∧ w.cell? ⟨g, k * 3 + 2, none⟩ = some es[k].2.2.1 := by
  obtain ⟨g, c, hv, h1, h2⟩ := h.own.form (by omega)
  subst hv
  obtain ⟨c1, c2, c3⟩ := cellsE_get es k hk
  exact ⟨g, c, rfl, h1, h2, (h.own.cellAt _ (by omega)).trans c1, (h.own.cellAt _ (by omega)).trans c2, (h.own.cellAt _ (by omega)).trans c3⟩
end
theorem Lns.one {w : World} {A : Option Addr} {c : Nat} {l : List Int} (T : TypeId) (r : Rd w w.heap.size A l) : Lns (w.alloc (.cells #[.slice A l.length c] T)) (w.heap.size + 1) (some ⟨w.heap.size, 0, none⟩) [(A, c, l)] := by
  refine ⟨⟨rfl, fun _ => ⟨_, rfl, by simp, fun j u hu => ?_⟩⟩, fun t ht => ?_⟩
  · match j with
    | 0 => simp [vals, Ln.val] at hu; subst hu; simp [Addr.add]
    | j + 1 => simp [vals] at hu
  · obtain rfl := List.mem_singleton.1 ht
    exact (r.below ((Below.refl _ _).alloc (Nat.le_refl _) _)).more (by omega)
end Go.Proofs.Ytaoddenadfmdbaa
