/- ROWS: boxes (printed by gen_rowb.py). -/
import Derived.Test.YtfkcpcdndleboaaRowP
namespace Go.Proofs.Ytfkcpcdndleboaa
open Go.ChangeShapes Go.WideShapes Go.ChangeAt Go.RowKit Go.Joins Go.Deep
theorem row_box : ∃ f0 f1 f2 f3 f4 f5 f6 f7 f8 f9 f10 : Field, Try.prog.underlying 54 = some (.struct #[f0, f1, f2, f3, f4, f5, f6, f7, f8, f9, f10]) ∧ (f0.type = 3 ∧ f1.type = 3 ∧ f2.type = 3 ∧ f3.type = 4 ∧ f4.type = 3 ∧ f5.type = 3 ∧ f6.type = 3 ∧ f7.type = 52 ∧ f8.type = 52 ∧ f9.type = 52 ∧ f10.type = 52) ∧ (f0.offset = 0 ∧ f1.offset = 1 ∧ f2.offset = 2 ∧ f3.offset = 3 ∧ f4.offset = 4 ∧ f5.offset = 5 ∧ f6.offset = 6 ∧ f7.offset = 7 ∧ f8.offset = 9 ∧ f9.offset = 11 ∧ f10.offset = 13) ∧ Try.prog.cellsOf 54 = 15 ∧ Try.prog.cellsOf 3 = 1 ∧ Try.prog.cellsOf 4 = 1 ∧ Try.prog.cellsOf 52 = 2 :=
  ⟨_, _, _, _, _, _, _, _, _, _, _, Try.underlying54, ⟨by kernel_rfl, by kernel_rfl, by kernel_rfl, by kernel_rfl, by kernel_rfl, by kernel_rfl, by kernel_rfl, by kernel_rfl, by kernel_rfl, by kernel_rfl, by kernel_rfl⟩, ⟨by kernel_rfl, by kernel_rfl, by kernel_rfl, by kernel_rfl, by kernel_rfl, by kernel_rfl, by kernel_rfl, by kernel_rfl, by kernel_rfl, by kernel_rfl, by kernel_rfl⟩, by kernel_rfl, by kernel_rfl, by kernel_rfl, by kernel_rfl⟩
instance : Inhabited Bxv := ⟨⟨⟨0, 0, 0, 0, false, 0, 0, 0⟩, ⟨0, 0⟩, ⟨0, 0⟩, ⟨0, 0⟩, ⟨0, 0⟩⟩⟩
section
variable {H : Type} {enc : TypeId × Value → H} {w : World} {base : Nat} {held : Bool}
set_option maxRecDepth 100000 in
/-- A slice of structs, each element as a whole. -/
theorem open_rows {α : Type} [Inhabited α] {t e : TypeId} {fuel : Nat} {v : Value} {x : DataW H × List MemPlace} (f : α → List Value) (size : Nat) (hlen : ∀ a, (f a).length = size)
    (ht : Try.prog.underlying t = some (.slice e)) (hC : Try.prog.cellsOf e = size) (hs : 0 < size)
    (hel : ∀ (n : Nat) (cs : List Value) (y : DataW H × List MemPlace), DataW.trod enc Try.prog w base (fun _ => true) held n e cs = some y → cs.length = size → ∃ a, cs = f a)
    (h : DataW.trod enc Try.prog w base (fun _ => true) held fuel t [v] = some x) : ∃ (A : Option Addr) (l : List α) (c : Nat), v = .slice A l.length c ∧ l.length ≤ c ∧ c ≤ maxLen ∧ Reads w w.heap.size size A l.length (l.flatMap f) := by
  rcases open_slice ht h with ⟨hcs, _⟩ | ⟨a, len, cap, m, n, D, Pl, hcs, _, hl, hm, hmm, _, hx⟩
  · simp at hcs
    subst hcs
    exact ⟨none, [], 0, rfl, by simp, by simp, ⟨by simp, fun h => absurd h (by simp)⟩⟩
  · simp at hcs
    subst hcs
    simp only [if_true] at hmm
    obtain ⟨T, hT⟩ := choose_lt (α := α) (n := len) (p := fun i b => ∀ j u, (f b)[j]? = some u → w.cell? (a.add (i * size + j)) = some u) fun i hi => by
      obtain ⟨cs', h1, h2⟩ := hx i (by omega)
      rw [hC] at h1
      obtain ⟨_, hl', hcell⟩ := World.cells?_some h1
      obtain ⟨b, hb⟩ := hel _ cs' _ h2 (by omega)
      refine ⟨b, fun j u hu => ?_⟩
      rw [← hb] at hu
      have hj := (List.getElem?_eq_some_iff.1 hu).1
      have hc := hcell j (by omega)
      rw [Go.Deep.add_add] at hc
      rw [List.getElem?_eq_getElem hj] at hu
      injection hu with hu
      rw [← hu, hc, List.getElem?_eq_getElem hj]
    obtain ⟨l, hls⟩ : ∃ l : List α, l = (List.range len).map T := ⟨_, rfl⟩
    have hll : l.length = len := by rw [hls]; simp
    have hg : ∀ r (hr : r < l.length), l[r] = T r := fun r hr => by simp [hls]
    refine ⟨some a, l, cap, by rw [hll], by omega, by omega, flat_len hlen l, fun hn => ⟨a, rfl, ?_, fun j u hu => ?_⟩⟩
    · obtain ⟨u, hu⟩ : ∃ u, (f (T 0))[0]? = some u := ⟨_, List.getElem?_eq_getElem (by rw [hlen]; exact hs)⟩
      have h0 := hT 0 (by omega) 0 u hu
      have := World.block_lt_of_cell? _ _ h0
      rwa [block_of_add] at this
    · have hj := (List.getElem?_eq_some_iff.1 hu).1
      rw [flat_len hlen] at hj
      have hk : j / size < l.length := Nat.div_lt_of_lt_mul (by rw [Nat.mul_comm]; exact hj)
      have he : j = j / size * size + j % size := by rw [Nat.mul_comm]; exact (Nat.div_add_mod _ _).symm
      have hm2 : j % size < size := Nat.mod_lt _ hs
      rw [he] at hu ⊢
      rw [flat_get hlen l _ _ hk hm2, hg _ hk] at hu
      exact hT _ (by omega) _ _ hu
set_option maxRecDepth 100000 in
theorem open_boxes1 {n : Nat} {v : Value} {y : DataW H × List MemPlace} (h : DataW.trod enc Try.prog w base (fun _ => true) held n 35 [v] = some y) : ∃ (A : Option Addr) (l : List Bxv) (c : Nat), v = .slice A l.length c ∧ l.length ≤ maxLen ∧ Reads w w.heap.size 15 A l.length (flatB l) := by
  obtain ⟨f0, f1, f2, f3, f4, f5, f6, f7, f8, f9, f10, hu, ⟨t0, t1, t2, t3, t4, t5, t6, t7, t8, t9, t10⟩, ⟨o0, o1, o2, o3, o4, o5, o6, o7, o8, o9, o10⟩, hC, ci, cb, cf⟩ := row_box
  obtain ⟨A, l, c, rfl, h1, h2, h3⟩ := open_rows (α := Bxv) bxC 15 (fun a => rfl) Try.underlying35 hC (by decide) (fun n cs y hy hl => by
    obtain ⟨v0, v1, v2, v3, v4, v5, v6, v7, v8, v9, v10, v11, v12, v13, v14, rfl⟩ : ∃ v0 v1 v2 v3 v4 v5 v6 v7 v8 v9 v10 v11 v12 v13 v14, cs = [v0, v1, v2, v3, v4, v5, v6, v7, v8, v9, v10, v11, v12, v13, v14] := by
      match cs, hl with
      | [v0, v1, v2, v3, v4, v5, v6, v7, v8, v9, v10, v11, v12, v13, v14], _ => exact ⟨v0, v1, v2, v3, v4, v5, v6, v7, v8, v9, v10, v11, v12, v13, v14, rfl⟩
    obtain ⟨ys, n', _, _, hl2, hyl, hf⟩ := DataW.trod_struct hu hy
    have g0 := hf 0 f0 rfl
    rw [List.getElem?_eq_getElem (show 0 < ys.length by rw [hyl]; simp), o0, t0, ci] at g0
    simp only [List.drop_zero, List.take_succ_cons, List.take_zero] at g0
    obtain ⟨a0, rfl⟩ := int1 g0
    have g1 := hf 1 f1 rfl
    rw [List.getElem?_eq_getElem (show 1 < ys.length by rw [hyl]; simp), o1, t1, ci] at g1
    simp only [List.drop_succ_cons, List.drop_zero, List.take_succ_cons, List.take_zero] at g1
    obtain ⟨a1, rfl⟩ := int1 g1
    have g2 := hf 2 f2 rfl
    rw [List.getElem?_eq_getElem (show 2 < ys.length by rw [hyl]; simp), o2, t2, ci] at g2
    simp only [List.drop_succ_cons, List.drop_zero, List.take_succ_cons, List.take_zero] at g2
    obtain ⟨a2, rfl⟩ := int1 g2
    have g3 := hf 3 f3 rfl
    rw [List.getElem?_eq_getElem (show 3 < ys.length by rw [hyl]; simp), o3, t3, cb] at g3
    simp only [List.drop_succ_cons, List.drop_zero, List.take_succ_cons, List.take_zero] at g3
    obtain ⟨a3, rfl⟩ := bool1 g3
    have g4 := hf 4 f4 rfl
    rw [List.getElem?_eq_getElem (show 4 < ys.length by rw [hyl]; simp), o4, t4, ci] at g4
    simp only [List.drop_succ_cons, List.drop_zero, List.take_succ_cons, List.take_zero] at g4
    obtain ⟨a4, rfl⟩ := int1 g4
    have g5 := hf 5 f5 rfl
    rw [List.getElem?_eq_getElem (show 5 < ys.length by rw [hyl]; simp), o5, t5, ci] at g5
    simp only [List.drop_succ_cons, List.drop_zero, List.take_succ_cons, List.take_zero] at g5
    obtain ⟨a5, rfl⟩ := int1 g5
    have g6 := hf 6 f6 rfl
    rw [List.getElem?_eq_getElem (show 6 < ys.length by rw [hyl]; simp), o6, t6, ci] at g6
    simp only [List.drop_succ_cons, List.drop_zero, List.take_succ_cons, List.take_zero] at g6
    obtain ⟨a6, rfl⟩ := int1 g6
    have g7 := hf 7 f7 rfl
    rw [List.getElem?_eq_getElem (show 7 < ys.length by rw [hyl]; simp), o7, t7, cf] at g7
    simp only [List.drop_succ_cons, List.drop_zero, List.take_succ_cons, List.take_zero] at g7
    obtain ⟨a7, b7, rfl, rfl⟩ := open_frac2 g7
    have g8 := hf 8 f8 rfl
    rw [List.getElem?_eq_getElem (show 8 < ys.length by rw [hyl]; simp), o8, t8, cf] at g8
    simp only [List.drop_succ_cons, List.drop_zero, List.take_succ_cons, List.take_zero] at g8
    obtain ⟨a8, b8, rfl, rfl⟩ := open_frac2 g8
    have g9 := hf 9 f9 rfl
    rw [List.getElem?_eq_getElem (show 9 < ys.length by rw [hyl]; simp), o9, t9, cf] at g9
    simp only [List.drop_succ_cons, List.drop_zero, List.take_succ_cons, List.take_zero] at g9
    obtain ⟨a9, b9, rfl, rfl⟩ := open_frac2 g9
    have g10 := hf 10 f10 rfl
    rw [List.getElem?_eq_getElem (show 10 < ys.length by rw [hyl]; simp), o10, t10, cf] at g10
    simp only [List.drop_succ_cons, List.drop_zero, List.take_succ_cons, List.take_zero] at g10
    obtain ⟨a10, b10, rfl, rfl⟩ := open_frac2 g10
    exact ⟨⟨⟨a0, 0, a1, a2, a3, a4, a5, a6⟩, ⟨a7, b7⟩, ⟨a8, b8⟩, ⟨a9, b9⟩, ⟨a10, b10⟩⟩, rfl⟩) h
  exact ⟨A, l, c, rfl, by omega, h3⟩
set_option maxRecDepth 100000 in
theorem open_boxes {r : Reach} {b0 : Nat} {v : Value} {d : DataW H} {p : List MemPlace} (hv : Value.okWide Try.prog w r b0 35 v) (h : DataW.Trod enc Try.prog w base (fun _ => true) held 35 v d p) : ∃ (A : Option Addr) (l : List Bxv) (c : Nat), v = .slice A l.length c ∧ l.length ≤ maxLen ∧ Reads w w.heap.size 15 A l.length (flatB l) := by
  obtain ⟨a0, len, cap, rfl⟩ := okWide_slice Try.underlying35 hv
  obtain ⟨fuel, hf⟩ := h
  exact open_boxes1 hf
end
end Go.Proofs.Ytfkcpcdndleboaa
