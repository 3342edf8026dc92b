/- ROWS: an argument that is a slice of pairs. -/
import Derived.Test.YtoljnbbhoeloeaaRowL
import Derived.Test.YtoljnbbhoeloeaaCostW2
import Derived.Deep.SlicePairs
namespace Go.Proofs.Ytoljnbbhoeloeaa
open Go.ChangeShapes Go.WideShapes Go.ChangeAt Go.RowKit Go.Joins Go.Deep
theorem row_pair : ∃ f0 f1 : Field, Try.prog.underlying 51 = some (.struct #[f0, f1]) ∧ f0.type = 3 ∧ f1.type = 3 ∧ f0.offset = 0 ∧ f1.offset = 1 ∧ Try.prog.cellsOf 51 = 2 ∧ Try.prog.cellsOf 3 = 1 := ⟨_, _, Try.underlying51, by kernel_rfl, by kernel_rfl, by kernel_rfl, by kernel_rfl, by kernel_rfl, by kernel_rfl⟩
/-- A slice of structs of two numbers, opened. -/
theorem rp_of {w : World} {a : Addr} {len : Nat} {V0 V1 : Nat → Value} (hc : ∀ i, i < len → ∃ x y : Int, V0 i = .int .i64 x ∧ V1 i = .int .i64 y ∧ w.cell? (a.add (i * 2)) = some (.int .i64 x) ∧ w.cell? (a.add (i * 2 + 1)) = some (.int .i64 y)) :
    ∃ ps : List (Int × Int), ps.length = len ∧ Rp w w.heap.size (some a) ps := by
  refine ⟨(List.range len).map fun i => (intOf (V0 i), intOf (V1 i)), by simp, ?_⟩
  obtain ⟨ps, hps⟩ : ∃ ps, ps = (List.range len).map fun i => (intOf (V0 i), intOf (V1 i)) := ⟨_, rfl⟩
  rw [← hps]
  have hl : ps.length = len := by rw [hps]; simp
  have hg : ∀ i (hi : i < ps.length), w.cell? (a.add (i * 2)) = some (.int .i64 ps[i].1) ∧ w.cell? (a.add (i * 2 + 1)) = some (.int .i64 ps[i].2) := fun i hi => by
    obtain ⟨x, y, h1, h2, h3, h4⟩ := hc i (by omega)
    have e : ps[i] = (x, y) := by simp [hps, h1, h2, intOf]
    rw [e]
    exact ⟨h3, h4⟩
  refine ⟨flatP_len ps, fun hn => ⟨a, rfl, ?_, fun j u hu => ?_⟩⟩
  · have := World.block_lt_of_cell? _ _ (hg 0 hn).1
    rwa [block_of_add] at this
  · obtain ⟨hj, _⟩ := List.getElem?_eq_some_iff.1 hu
    rw [flatP_len] at hj
    have hk : j / 2 < ps.length := by omega
    rcases Nat.mod_two_eq_zero_or_one j with h | h
    · have e : j = j / 2 * 2 := by omega
      rw [e, (flatP_get ps (j / 2) hk).1] at hu
      rw [e, (hg (j / 2) hk).1]
      exact hu
    · have e : j = j / 2 * 2 + 1 := by omega
      rw [e, (flatP_get ps (j / 2) hk).2] at hu
      rw [e, (hg (j / 2) hk).2]
      exact hu
section
variable {H : Type} {enc : TypeId × Value → H} {w : World} {base : Nat} {held : Bool}
set_option maxRecDepth 100000 in
theorem open_prs {r : Reach} {b0 : Nat} {v : Value} {d : DataW H} {p : List MemPlace} (hv : Value.okWide Try.prog w r b0 47 v) (h : DataW.Trod enc Try.prog w base (fun _ => true) held 47 v d p) :
    ∃ (A : Option Addr) (ps : List (Int × Int)) (c : Nat), v = .slice A ps.length c ∧ ps.length ≤ maxLen ∧ Rp w w.heap.size A ps := by
  obtain ⟨a0, len, cap, rfl⟩ := okWide_slice Try.underlying47 hv
  obtain ⟨fuel, hf⟩ := h
  obtain ⟨f0, f1, hu, e0, e1, o0, o1, c2, c1⟩ := row_pair
  rcases open_slice_pairs Try.underlying47 hu c2 o0 o1 (by rw [e0]; exact c1) (by rw [e1]; exact c1) hf with ⟨hcs, _⟩ | ⟨a, len', cap', m, n, V0, V1, D0, D1, P0, P1, hcs, _, hl, hm, hmm, _, hx⟩
  · simp [Value.cells] at hcs
    obtain ⟨rfl, rfl, rfl⟩ := hcs
    exact ⟨none, [], 0, rfl, by simp, rfl, fun h => by simp at h⟩
  · simp [Value.cells] at hcs
    obtain ⟨rfl, rfl, rfl⟩ := hcs
    simp only [if_true] at hmm
    obtain ⟨ps, hps, hrp⟩ := rp_of (w := w) (a := a) (len := len) (V0 := V0) (V1 := V1) fun i hi => by
      obtain ⟨h1, h2, h3, h4⟩ := hx i (by omega)
      rw [e0] at h3
      rw [e1] at h4
      obtain ⟨x, hx1, _, _⟩ := DataW.trod_int Try.underlying3 h3
      obtain ⟨y, hy1, _, _⟩ := DataW.trod_int Try.underlying3 h4
      injection hx1 with hx1; injection hy1 with hy1
      exact ⟨x, y, hx1, hy1, by rw [h1, hx1], by rw [h2, hy1]⟩
    exact ⟨some a, ps, cap, by rw [hps], by rw [hps]; omega, hrp⟩
end
end Go.Proofs.Ytoljnbbhoeloeaa
