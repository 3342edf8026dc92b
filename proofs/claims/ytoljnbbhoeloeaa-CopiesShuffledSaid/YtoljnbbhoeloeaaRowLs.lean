/- ROWS: an argument that is a slice of lines. -/
import Derived.Test.YtoljnbbhoeloeaaRowL
import Derived.Test.YtoljnbbhoeloeaaCheck
namespace Go.Proofs.Ytoljnbbhoeloeaa
open Go.ChangeShapes Go.WideShapes Go.ChangeAt Go.RowKit Go.Joins Go.Deep
section
variable {H : Type} {enc : TypeId × Value → H} {w : World} {base : Nat} {held : Bool}
set_option maxRecDepth 100000 in
theorem open_lines {r : Reach} {b0 : Nat} {v : Value} {d : DataW H} {p : List MemPlace} (hv : Value.okWide Try.prog w r b0 23 v) (h : DataW.Trod enc Try.prog w base (fun _ => true) held 23 v d p) :
    ∃ (A : Option Addr) (ls : List Ln) (c : Nat), v = .slice A ls.length c ∧ ls.length ≤ maxLen ∧ Lns w w.heap.size A ls := by
  obtain ⟨a0, len, cap, rfl⟩ := okWide_slice Try.underlying23 hv
  obtain ⟨fuel, hf⟩ := h
  rcases open_int_rows Try.underlying23 Try.underlying22 Try.underlying3 (by kernel_rfl) (by kernel_rfl) hf with ⟨hcs, _⟩ | ⟨a, len', cap', A, L, C, Z, hcs, _, hl, hm, _, hx⟩
  · simp [Value.cells] at hcs
    obtain ⟨rfl, rfl, rfl⟩ := hcs
    exact ⟨none, [], 0, rfl, by simp, ⟨rfl, fun h => by simp at h⟩, fun t ht => by cases ht⟩
  · simp [Value.cells] at hcs
    obtain ⟨rfl, rfl, rfl⟩ := hcs
    obtain ⟨ls, hls⟩ : ∃ ls : List Ln, ls = (List.range len).map fun r => (A r, C r, (Z r).take (L r)) := ⟨_, rfl⟩
    have hlen : ls.length = len := by rw [hls]; simp
    have hz : ∀ r, r < len → ((Z r).take (L r)).length = L r := fun r hr => by
      obtain ⟨_, h2, _, h4, _⟩ := hx r (by omega)
      simp; omega
    have hg : ∀ r (hr : r < ls.length), ls[r] = (A r, C r, (Z r).take (L r)) := fun r hr => by simp [hls]
    have hcell : ∀ r (hr : r < ls.length), w.cell? (a.add r) = some ls[r].val := fun r hr => by
      rw [hg r hr]
      show _ = some (Value.slice (A r) ((Z r).take (L r)).length (C r))
      rw [hz r (by omega)]
      exact (hx r (by omega)).1
    refine ⟨some a, ls, cap, by rw [hlen], by rw [hlen]; omega, ⟨by simp [vals], fun hn => ⟨a, rfl, ?_, fun j u hu => ?_⟩⟩, fun t ht => ?_⟩
    · have := World.block_lt_of_cell? _ _ (hcell 0 hn)
      rwa [block_of_add] at this
    · obtain ⟨hj, rfl⟩ := List.getElem?_eq_some_iff.1 hu
      have hj' : j < ls.length := by simpa [vals] using hj
      rw [hcell j hj']
      simp [vals]
    · obtain ⟨r, hr, rfl⟩ := List.getElem_of_mem ht
      rw [hg r hr]
      obtain ⟨_, h2, _, h4, _, h6, h7⟩ := hx r (by omega)
      cases hA : A r with
      | none =>
        have hC := h6 hA
        have hZ : (Z r).take (L r) = [] := List.eq_nil_of_length_eq_zero (by rw [hz r (by omega)]; omega)
        rw [hZ]
        exact ⟨rfl, fun h => by simp at h⟩
      | some a' =>
        exact rd_of rfl (by omega) (fun i hi => (h7 a' hA).2 i (by omega))
end
end Go.Proofs.Ytoljnbbhoeloeaa
