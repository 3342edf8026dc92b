/- ROWS: a line with its capacity, and a place with a choice. -/
import Derived.Test.YtoljnbbhoeloeaaRowL
import Derived.Test.YtoljnbbhoeloeaaApplyW
import Derived.Deep.Grids
namespace Go.Proofs.Ytoljnbbhoeloeaa
open Go.ChangeShapes Go.WideShapes Go.ChangeAt Go.RowKit Go.Joins Go.Deep
theorem row_chosen : ∃ f0 f1 : Field, Try.prog.underlying 57 = some (.struct #[f0, f1]) ∧ f0.type = 3 ∧ f1.type = 55 ∧ oneCellFields Try.prog #[f0, f1] = true ∧ Try.prog.cellsOf 57 = 2 := ⟨_, _, Try.underlying57, by kernel_rfl, by kernel_rfl, by kernel_rfl, by kernel_rfl⟩
section
variable {H : Type} {enc : TypeId × Value → H} {w : World} {base : Nat} {held : Bool}
set_option maxRecDepth 100000 in
theorem open_line2 {r : Reach} {b0 : Nat} {v : Value} {d : DataW H} {p : List MemPlace} (hv : Value.okWide Try.prog w r b0 22 v) (h : DataW.Trod enc Try.prog w base (fun _ => true) held 22 v d p) :
    ∃ (A : Option Addr) (l : List Int) (c : Nat), v = .slice A l.length c ∧ (A = none → c = 0) ∧ l.length ≤ c ∧ Rd w w.heap.size A l := by
  obtain ⟨a0, len, cap, rfl⟩ := okWide_slice Try.underlying22 hv
  obtain ⟨fuel, hf⟩ := h
  rcases open_ints Try.underlying22 Try.underlying3 (by kernel_rfl) hf with ⟨hcs, _⟩ | ⟨a, len', cap', zs, hcs, _, hl, hm, hz, _, hcell, _⟩
  · simp [Value.cells] at hcs
    obtain ⟨rfl, rfl, rfl⟩ := hcs
    exact ⟨none, [], 0, rfl, fun _ => rfl, Nat.le_refl _, by simp [ints], fun h => by simp at h⟩
  · simp [Value.cells] at hcs
    obtain ⟨rfl, rfl, rfl⟩ := hcs
    simp only [if_true] at hz
    have hlen : (zs.take len).length = len := by simp; omega
    exact ⟨some a, zs.take len, cap, by rw [hlen], (fun h => by cases h), by rw [hlen]; exact hl, rd_of rfl (by omega) hcell⟩
set_option maxRecDepth 100000 in
theorem open_chosen {r : Reach} {b0 : Nat} {v : Value} {d : DataW H} {p : List MemPlace} (hv : Value.okWide Try.prog w r b0 57 v) (h : DataW.Trod enc Try.prog w base (fun _ => true) held 57 v d p) :
    ∃ (at_ : Int) (A : Option Addr) (l : List Bool) (c : Nat), v = .agg #[.int .i64 at_, .slice A l.length c] ∧ Rb w w.heap.size A l := by
  obtain ⟨f0, f1, hu, e0, e1, ho, hc⟩ := row_chosen
  obtain ⟨v0, v1, y0, y1, n, rfl, _, _, h0, h1⟩ := open_agg2 hu ho hc hv h
  rw [e0] at h0
  rw [e1] at h1
  obtain ⟨a, ha, _, _⟩ := DataW.trod_int Try.underlying3 h0
  injection ha with ha
  subst ha
  rcases open_bools Try.underlying55 Try.underlying4 (by kernel_rfl) h1 with ⟨hcs, _⟩ | ⟨ad, len, cap, B, hcs, _, hl, _, _, hcell⟩
  · injection hcs with hcs
    subst hcs
    exact ⟨a, none, [], 0, rfl, rfl, fun h => by simp at h⟩
  · injection hcs with hcs
    subst hcs
    refine ⟨a, some ad, (List.range len).map B, cap, by simp, by simp, fun hn => ⟨ad, rfl, ?_, fun j u hu => ?_⟩⟩
    · have := World.block_lt_of_cell? _ _ (hcell 0 (by simp at hn; omega))
      rwa [block_of_add] at this
    · obtain ⟨hj, rfl⟩ := List.getElem?_eq_some_iff.1 hu
      have hj' : j < len := by simpa using hj
      rw [hcell j (by omega)]
      simp
end
end Go.Proofs.Ytoljnbbhoeloeaa
