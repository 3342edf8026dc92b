/- ROWS: a paper, a text. -/
import Derived.Test.YtddbnggficlcfaaRow
namespace Go.Proofs.Ytddbnggficlcfaa
open Go.ChangeShapes Go.WideShapes Go.ChangeAt Go.RowKit Go.Joins Go.Deep
theorem row_list : ∃ f0 f1 : Field, Try.prog.underlying 24 = some (.struct #[f0, f1]) ∧ f0.type = 3 ∧ f1.type = 22 ∧ f0.offset = 0 ∧ f1.offset = 1 ∧ Try.prog.cellsOf 24 = 2 ∧ Try.prog.cellsOf 3 = 1 ∧ Try.prog.cellsOf 22 = 1 :=
  ⟨_, _, Try.underlying24, by kernel_rfl, by kernel_rfl, by kernel_rfl, by kernel_rfl, by kernel_rfl, by kernel_rfl, by kernel_rfl⟩
theorem row_text : ∃ f0 : Field, Try.prog.underlying 27 = some (.struct #[f0]) ∧ f0.type = 25 ∧ f0.offset = 0 ∧ Try.prog.cellsOf 27 = 1 ∧ Try.prog.cellsOf 25 = 1 :=
  ⟨_, Try.underlying27, by kernel_rfl, by kernel_rfl, by kernel_rfl, by kernel_rfl⟩
theorem row_paper : ∃ f0 f1 : Field, Try.prog.underlying 29 = some (.struct #[f0, f1]) ∧ f0.type = 24 ∧ f1.type = 27 ∧ f0.offset = 0 ∧ f1.offset = 2 ∧ Try.prog.cellsOf 29 = 3 :=
  ⟨_, _, Try.underlying29, by kernel_rfl, by kernel_rfl, by kernel_rfl, by kernel_rfl, by kernel_rfl⟩
section
variable {H : Type} {enc : TypeId × Value → H} {w : World} {base : Nat} {held : Bool}
set_option maxRecDepth 100000 in
theorem open_list2 {n : Nat} {v0 v1 : Value} {y : DataW H × List MemPlace} (h : DataW.trod enc Try.prog w base (fun _ => true) held n 24 [v0, v1] = some y) :
    ∃ (P : Int) (A : Option Addr) (ss : List Sg) (c : Nat), v0 = .int .i64 P ∧ v1 = .slice A ss.length c ∧ ss.length ≤ maxLen ∧ (∀ s ∈ ss, s.vals.length ≤ maxLen) ∧ Sgs w w.heap.size A ss := by
  obtain ⟨f0, f1, hu, t0, t1, o0, o1, c2, ci, cs⟩ := row_list
  obtain ⟨y0, y1, m, _, _, g0, g1⟩ := trod_struct2 hu h
  simp [o0, o1, t0, t1, ci, cs] at g0 g1
  obtain ⟨P, rfl⟩ := int1 g0
  obtain ⟨A, ss, c, rfl, h1, h2, h3⟩ := open_signs g1
  exact ⟨P, A, ss, c, rfl, rfl, h1, h2, h3⟩
set_option maxRecDepth 100000 in
theorem open_text1 {n : Nat} {v0 : Value} {y : DataW H × List MemPlace} (h : DataW.trod enc Try.prog w base (fun _ => true) held n 27 [v0] = some y) :
    ∃ (A : Option Addr) (l : List Nd) (c : Nat), v0 = .slice A l.length c ∧ l.length ≤ maxLen ∧ Nds w w.heap.size A l := by
  obtain ⟨f0, hu, t0, o0, c1, cn⟩ := row_text
  obtain ⟨y0, m, _, _, g0⟩ := trod_struct1 hu h
  simp [o0, t0, cn] at g0
  exact open_nodes g0
set_option maxRecDepth 100000 in
theorem open_paper {r : Reach} {b0 : Nat} {v : Value} {d : DataW H} {p : List MemPlace} (hv : Value.okWide Try.prog w r b0 29 v) (h : DataW.Trod enc Try.prog w base (fun _ => true) held 29 v d p) :
    ∃ (P : Int) (A A2 : Option Addr) (ss : List Sg) (l : List Nd) (c c2 : Nat), v = .agg #[.int .i64 P, .slice A ss.length c, .slice A2 l.length c2] ∧ ss.length ≤ maxLen ∧ (∀ s ∈ ss, s.vals.length ≤ maxLen) ∧ l.length ≤ maxLen ∧ Sgs w w.heap.size A ss ∧ Nds w w.heap.size A2 l := by
  obtain ⟨f0, f1, hu, t0, t1, o0, o1, cP⟩ := row_paper
  obtain ⟨g0, g1, _, _, _, _, _, c2, _, _⟩ := row_list
  obtain ⟨k0, _, _, _, ct, _⟩ := row_text
  obtain ⟨cs, rfl, hsz⟩ := okWide_struct hu hv
  obtain ⟨a0, a1, a2, rfl⟩ := array3 (hsz.trans cP)
  obtain ⟨fuel, hf⟩ := h
  obtain ⟨y0, y1, n, _, _, h0, h1⟩ := trod_struct2 hu hf
  simp [Value.cells, o0, o1, t0, t1, c2, ct] at h0 h1
  obtain ⟨P, A, ss, c, rfl, rfl, q1, q2, q3⟩ := open_list2 h0
  obtain ⟨A2, l, c2, rfl, q4, q5⟩ := open_text1 h1
  exact ⟨P, A, A2, ss, l, c, c2, rfl, q1, q2, q4, q3, q5⟩
set_option maxRecDepth 100000 in
theorem open_text {r : Reach} {b0 : Nat} {v : Value} {d : DataW H} {p : List MemPlace} (hv : Value.okWide Try.prog w r b0 27 v) (h : DataW.Trod enc Try.prog w base (fun _ => true) held 27 v d p) :
    ∃ (A2 : Option Addr) (l : List Nd) (c2 : Nat), v = .agg #[.slice A2 l.length c2] ∧ l.length ≤ maxLen ∧ Nds w w.heap.size A2 l := by
  obtain ⟨f0, hu, t0, o0, c1, cn⟩ := row_text
  obtain ⟨cs, rfl, hsz⟩ := okWide_struct hu hv
  obtain ⟨fuel, hf⟩ := h
  obtain ⟨a0, rfl⟩ : ∃ a0, cs = #[a0] := by
    have h1 := hsz.trans c1
    exact ⟨cs[0]'(by omega), Array.ext (by simp [h1]) (fun i h2 h3 => by
      have : i = 0 := by simp at h3; omega
      subst this
      rfl)⟩
  obtain ⟨A, l, c, rfl, h1, h2⟩ := open_text1 hf
  exact ⟨A, l, c, rfl, h1, h2⟩
end
end Go.Proofs.Ytddbnggficlcfaa
