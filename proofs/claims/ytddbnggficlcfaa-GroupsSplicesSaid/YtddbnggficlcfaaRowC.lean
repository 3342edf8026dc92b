/- ROWS: where a text is replaced, and by what. -/
import Derived.Test.YtddbnggficlcfaaRowP
namespace Go.Proofs.Ytddbnggficlcfaa
open Go.ChangeShapes Go.WideShapes Go.ChangeAt Go.RowKit Go.Joins Go.Deep
theorem row_cut : ∃ f0 f1 f2 : Field, Try.prog.underlying 57 = some (.struct #[f0, f1, f2]) ∧ f0.type = 3 ∧ f1.type = 3 ∧ f2.type = 27 ∧ f0.offset = 0 ∧ f1.offset = 1 ∧ f2.offset = 2 ∧ Try.prog.cellsOf 57 = 3 :=
  ⟨_, _, _, Try.underlying57, by kernel_rfl, by kernel_rfl, by kernel_rfl, by kernel_rfl, by kernel_rfl, by kernel_rfl, by kernel_rfl⟩
section
variable {H : Type} {enc : TypeId × Value → H} {w : World} {base : Nat} {held : Bool}
set_option maxRecDepth 100000 in
theorem open_cut {r : Reach} {b0 : Nat} {v : Value} {d : DataW H} {p : List MemPlace} (hv : Value.okWide Try.prog w r b0 57 v) (h : DataW.Trod enc Try.prog w base (fun _ => true) held 57 v d p) :
    ∃ (x y : Int) (A2 : Option Addr) (l : List Nd) (c2 : Nat), v = .agg #[.int .i64 x, .int .i64 y, .slice A2 l.length c2] ∧ l.length ≤ maxLen ∧ Nds w w.heap.size A2 l := by
  obtain ⟨f0, f1, f2, hu, t0, t1, t2, o0, o1, o2, cP⟩ := row_cut
  obtain ⟨k0, _, _, _, ct, _⟩ := row_text
  obtain ⟨_, _, _, _, _, _, _, _, ci, _⟩ := row_list
  obtain ⟨cs, rfl, hsz⟩ := okWide_struct hu hv
  obtain ⟨a0, a1, a2, rfl⟩ := array3 (hsz.trans cP)
  obtain ⟨fuel, hf⟩ := h
  obtain ⟨y0, y1, y2, n, _, _, h0, h1, h2⟩ := trod_struct3 hu hf
  simp [Value.cells, o0, o1, o2, t0, t1, t2, ci, ct] at h0 h1 h2
  obtain ⟨x, rfl⟩ := int1 h0
  obtain ⟨y, rfl⟩ := int1 h1
  obtain ⟨A2, l, c2, rfl, q4, q5⟩ := open_text1 h2
  exact ⟨x, y, A2, l, c2, rfl, q4, q5⟩
end
end Go.Proofs.Ytddbnggficlcfaa
