/- ROWS: what the rows of lines need: an argument that is a slice of numbers, or a slice of such slices. -/
import Derived.Test.YtoljnbbhoeloeaaRowT
import Derived.Deep.Matrix
import Derived.ChangeSlices
import Derived.Laws.World
namespace Go.Proofs.Ytoljnbbhoeloeaa
open Go.ChangeShapes Go.WideShapes Go.ChangeAt Go.RowKit Go.Joins Go.Deep
section
variable {H : Type} {enc : TypeId × Value → H} {w : World} {base : Nat} {held : Bool}
theorem cell_add (b o i : Nat) : (⟨b, o, none⟩ : Addr).add i = ⟨b, o + i, none⟩ := by
  unfold Addr.add
  by_cases hi : i = 0 <;> simp [hi]
theorem rd_of {A : Option Addr} {zs : List Int} {len : Nat} {a : Addr} (hA : A = some a) (hl : len ≤ zs.length) (hc : ∀ i, i < zs.length → w.cell? (a.add i) = some (.int .i64 (zs.getD i 0))) : Rd w w.heap.size A (zs.take len) := by
  subst hA
  have hlen : (zs.take len).length = len := by simp; omega
  refine ⟨by simp [ints], fun hn => ⟨a, rfl, ?_, fun j u hu => ?_⟩⟩
  · have := World.block_lt_of_cell? _ _ (hc 0 (by rw [hlen] at hn; omega))
    rwa [block_of_add] at this
  · obtain ⟨hj, rfl⟩ := List.getElem?_eq_some_iff.1 hu
    have hj' : j < len := by simp [ints] at hj; omega
    rw [hc j (by omega)]
    simp [ints, List.getD, show j < zs.length by omega]
set_option maxRecDepth 100000 in
theorem open_line {r : Reach} {b0 : Nat} {v : Value} {d : DataW H} {p : List MemPlace} (hv : Value.okWide Try.prog w r b0 22 v) (h : DataW.Trod enc Try.prog w base (fun _ => true) held 22 v d p) :
    ∃ (A : Option Addr) (l : List Int) (c : Nat), v = .slice A l.length c ∧ l.length ≤ maxLen ∧ Rd w w.heap.size A l := by
  obtain ⟨a0, len, cap, rfl⟩ := okWide_slice Try.underlying22 hv
  obtain ⟨fuel, hf⟩ := h
  rcases open_ints Try.underlying22 Try.underlying3 (by kernel_rfl) hf with ⟨hcs, _⟩ | ⟨a, len', cap', zs, hcs, _, hl, hm, hz, _, hcell, _⟩
  · simp [Value.cells] at hcs
    obtain ⟨rfl, rfl, rfl⟩ := hcs
    exact ⟨none, [], 0, rfl, by simp, by simp [ints], fun h => by simp at h⟩
  · simp [Value.cells] at hcs
    obtain ⟨rfl, rfl, rfl⟩ := hcs
    simp only [if_true] at hz
    have hlen : (zs.take len).length = len := by simp; omega
    exact ⟨some a, zs.take len, cap, by rw [hlen], by rw [hlen]; omega, rd_of rfl (by omega) hcell⟩
end
end Go.Proofs.Ytoljnbbhoeloeaa
