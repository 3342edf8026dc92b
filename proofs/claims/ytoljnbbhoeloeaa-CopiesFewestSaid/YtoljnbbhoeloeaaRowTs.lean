/- ROWS: an argument that is a slice of tallies, and one that is a chance. -/
import Derived.Test.YtoljnbbhoeloeaaRowP
import Derived.Test.YtoljnbbhoeloeaaRowT
namespace Go.Proofs.Ytoljnbbhoeloeaa
open Go.ChangeShapes Go.WideShapes Go.ChangeAt Go.RowKit Go.Joins Go.Deep
theorem row_tal : ∃ f0 f1 : Field, Try.prog.underlying 38 = some (.struct #[f0, f1]) ∧ f0.type = 3 ∧ f1.type = 3 ∧ f0.offset = 0 ∧ f1.offset = 1 ∧ Try.prog.cellsOf 38 = 2 ∧ Try.prog.cellsOf 3 = 1 := ⟨_, _, Try.underlying38, by kernel_rfl, by kernel_rfl, by kernel_rfl, by kernel_rfl, by kernel_rfl, by kernel_rfl⟩
theorem row_chance : ∃ f0 f1 : Field, Try.prog.underlying 40 = some (.struct #[f0, f1]) ∧ f0.type = 3 ∧ f1.type = 3 ∧ oneCellFields Try.prog #[f0, f1] = true ∧ Try.prog.cellsOf 40 = 2 := ⟨_, _, Try.underlying40, by kernel_rfl, by kernel_rfl, by kernel_rfl, by kernel_rfl⟩
section
variable {H : Type} {enc : TypeId × Value → H} {w : World} {base : Nat} {held : Bool}
set_option maxRecDepth 100000 in
theorem open_tls {r : Reach} {b0 : Nat} {v : Value} {d : DataW H} {p : List MemPlace} (hv : Value.okWide Try.prog w r b0 63 v) (h : DataW.Trod enc Try.prog w base (fun _ => true) held 63 v d p) :
    ∃ (A : Option Addr) (ps : List (Int × Int)) (c : Nat), v = .slice A ps.length c ∧ ps.length ≤ maxLen ∧ Rp w w.heap.size A ps := by
  obtain ⟨a0, len, cap, rfl⟩ := okWide_slice Try.underlying63 hv
  obtain ⟨fuel, hf⟩ := h
  obtain ⟨f0, f1, hu, e0, e1, o0, o1, c2, c1⟩ := row_tal
  rcases open_slice_pairs Try.underlying63 hu c2 o0 o1 (by rw [e0]; exact c1) (by rw [e1]; exact c1) hf with ⟨hcs, _⟩ | ⟨a, len', cap', m, n, V0, V1, D0, D1, P0, P1, hcs, _, hl, hm, hmm, _, hx⟩
  · simp [Value.cells] at hcs
    obtain ⟨rfl, rfl, rfl⟩ := hcs
    exact ⟨none, [], 0, rfl, by simp, rfl, fun h => by simp at h⟩
  · simp [Value.cells] at hcs
    obtain ⟨rfl, rfl, rfl⟩ := hcs
    simp only [if_true] at hmm
    obtain ⟨ps, hps, hrp⟩ := rp_of (w := w) (a := a) (len := len) (V0 := V0) (V1 := V1) fun i hi => by
      obtain ⟨h1, h2, h3, h4⟩ := hx i (by omega)
      rw [e0] at h3
      rw [e1] at h4
      obtain ⟨x, hx1, _, _⟩ := DataW.trod_int Try.underlying3 h3
      obtain ⟨y, hy1, _, _⟩ := DataW.trod_int Try.underlying3 h4
      injection hx1 with hx1; injection hy1 with hy1
      exact ⟨x, y, hx1, hy1, by rw [h1, hx1], by rw [h2, hy1]⟩
    exact ⟨some a, ps, cap, by rw [hps], by rw [hps]; omega, hrp⟩
variable {spare : Nat → Bool}
set_option maxRecDepth 100000 in
theorem open_chance {r : Reach} {b0 : Nat} {v : Value} {d : DataW H} {p : List MemPlace} (hv : Value.okWide Try.prog w r b0 40 v) (h : DataW.Trod enc Try.prog w base spare held 40 v d p) : ∃ a b : Int, v = .agg #[.int .i64 a, .int .i64 b] ∧ (Lit.int .i64 a).wf = true ∧ (Lit.int .i64 b).wf = true := by
  obtain ⟨f0, f1, hu, e0, e1, ho, hc⟩ := row_chance
  obtain ⟨v0, v1, y0, y1, n, rfl, _, _, h0, h1⟩ := open_agg2 hu ho hc hv h
  rw [e0] at h0
  rw [e1] at h1
  obtain ⟨a, ha, _, wa⟩ := DataW.trod_int Try.underlying3 h0
  obtain ⟨b, hb, _, wb⟩ := DataW.trod_int Try.underlying3 h1
  injection ha with ha; injection hb with hb
  subst ha; subst hb
  exact ⟨a, b, rfl, wa, wb⟩
end
end Go.Proofs.Ytoljnbbhoeloeaa
