/- ROWS: arguments that are a list, cells, a line. -/
import Derived.Test.YtaoddenadfmdbaaRows
import Derived.Test.YtaoddenadfmdbaaSgn
import Derived.WalkKit
import Derived.ProofKit
import Derived.OpenShut
import Derived.ChangeOld
import Derived.Below
import Derived.Lib.SmallJoins
import Derived.ChangeSlices
import Derived.Laws.World
import Derived.Deep.Slices
import Derived.Deep.Fields
import Derived.Deep.Strs
import Derived.ChangeSame
import Derived.ChangeMaps5
import Derived.Test.YtaoddenadfmdbaaClW
import Derived.Deep.Matrix
namespace Go.Proofs.Ytaoddenadfmdbaa
open Go.ChangeShapes Go.WideShapes Go.ChangeAt Go.RowKit Go.Joins Go.Deep
theorem flat_len {α : Type} {f : α → List Value} {s : Nat} (hf : ∀ a, (f a).length = s) : ∀ l : List α, (l.flatMap f).length = l.length * s
  | [] => by simp
  | a :: l => by rw [List.flatMap_cons, List.length_append, hf, flat_len hf l, List.length_cons, Nat.succ_mul, Nat.add_comm]
theorem flat_get {α : Type} {f : α → List Value} {s : Nat} (hf : ∀ a, (f a).length = s) : ∀ (l : List α) (i j : Nat) (hi : i < l.length), j < s → (l.flatMap f)[i * s + j]? = (f l[i])[j]?
  | a :: l, 0, j, _, hj => by
    rw [List.flatMap_cons, Nat.zero_mul, Nat.zero_add, List.getElem?_append_left (by rw [hf]; exact hj)]
    rfl
  | a :: l, i + 1, j, hi, hj => by
    have ih := flat_get hf l i j (by simpa using hi) hj
    rw [List.flatMap_cons, List.getElem?_append_right (by rw [hf, Nat.succ_mul]; omega), hf]
    have e : (i + 1) * s + j - s = i * s + j := by rw [Nat.succ_mul]; omega
    rw [e, ih]
    rfl
section
variable {H : Type} {enc : TypeId × Value → H} {w : World} {base : Nat} {held : Bool}
/-- A slice of structs whose fields take one cell each. -/
theorem open_structs {α : Type} [Inhabited α] {t e : TypeId} {fs : Array Field} {fuel : Nat} {v : Value} {x : DataW H × List MemPlace} (f : α → List Value) (good : α → Prop) (hlen : ∀ a, (f a).length = fs.size)
    (ht : Try.prog.underlying t = some (.slice e)) (he : Try.prog.underlying e = some (.struct fs)) (hone : oneCellFields Try.prog fs = true) (hC : Try.prog.cellsOf e = fs.size) (hs : 0 < fs.size)
    (hel : ∀ V : Nat → Value, (∀ (j : Nat) (fl : Field), fs[j]? = some fl → ∃ n y, DataW.trod enc Try.prog w base (fun _ => true) held n fl.type [V j] = some y) → ∃ a, (∀ j, j < fs.size → (f a)[j]? = some (V j)) ∧ good a)
    (h : DataW.trod enc Try.prog w base (fun _ => true) held fuel t [v] = some x) : ∃ (A : Option Addr) (l : List α) (c : Nat), v = .slice A l.length c ∧ l.length ≤ c ∧ c ≤ maxLen ∧ Reads w w.heap.size fs.size A l.length (l.flatMap f) ∧ ∀ a ∈ l, good a := by
  rcases open_slice ht h with ⟨hcs, _⟩ | ⟨a, len, cap, m, n, D, Pl, hcs, _, hl, hm, hmm, _, hx⟩
  · simp at hcs
    subst hcs
    exact ⟨none, [], 0, rfl, by simp, by simp, ⟨by simp, fun h => absurd h (by simp)⟩, fun a ha => by cases ha⟩
  · simp at hcs
    subst hcs
    simp only [if_true] at hmm
    obtain ⟨T, hT⟩ := choose_lt (α := α) (n := len) (p := fun i b => (∀ j u, (f b)[j]? = some u → w.cell? (a.add (i * fs.size + j)) = some u) ∧ good b) fun i hi => by
      obtain ⟨cs', h1, h2⟩ := hx i (by omega)
      rw [hC] at h1
      obtain ⟨_, hl', hcell⟩ := World.cells?_some h1
      obtain ⟨ys, n', _, _, hl2, hyl, hf⟩ := DataW.trod_struct he h2
      obtain ⟨b, hb1, hb2⟩ := hel (fun j => cs'.getD j (.bool false)) fun j fl hj => by
        obtain ⟨ho, hk⟩ := hone_of hone j fl hj
        have hjl : j < fs.size := (Array.getElem?_eq_some_iff.1 hj).1
        have h1 := hf j fl hj
        rw [ho, hk] at h1
        have hone' : (cs'.drop j).take 1 = [cs'[j]'(by omega)] := by
          rw [List.drop_eq_getElem_cons (by omega)]
          rfl
        rw [hone', List.getElem?_eq_getElem (by omega)] at h1
        refine ⟨n', ys[j]'(by omega), ?_⟩
        rw [List.getD_eq_getElem?_getD, List.getElem?_eq_getElem (by omega)]
        exact h1
      refine ⟨b, fun j u hu => ?_, hb2⟩
      have hj := (List.getElem?_eq_some_iff.1 hu).1
      rw [hlen] at hj
      have hc := hcell j (by omega)
      rw [Go.Deep.add_add] at hc
      rw [hb1 j hj] at hu
      have hu := Option.some.inj hu
      rw [← hu, hc, List.getD_eq_getElem?_getD, List.getElem?_eq_getElem (by omega)]
      rfl
    obtain ⟨l, hls⟩ : ∃ l : List α, l = (List.range len).map T := ⟨_, rfl⟩
    have hll : l.length = len := by rw [hls]; simp
    have hg : ∀ r (hr : r < l.length), l[r] = T r := fun r hr => by simp [hls]
    refine ⟨some a, l, cap, by rw [hll], by omega, by omega, ⟨flat_len hlen l, fun hn => ⟨a, rfl, ?_, fun j u hu => ?_⟩⟩, fun b hb => ?_⟩
    · obtain ⟨u, hu⟩ : ∃ u, (f (T 0))[0]? = some u := ⟨_, List.getElem?_eq_getElem (by rw [hlen]; exact hs)⟩
      have h0 := (hT 0 (by omega)).1 0 u hu
      have := World.block_lt_of_cell? _ _ h0
      rwa [block_of_add] at this
    · have hj := (List.getElem?_eq_some_iff.1 hu).1
      rw [flat_len hlen] at hj
      have hk : j / fs.size < l.length := Nat.div_lt_of_lt_mul (by rw [Nat.mul_comm]; exact hj)
      have he : j = j / fs.size * fs.size + j % fs.size := by rw [Nat.mul_comm]; exact (Nat.div_add_mod _ _).symm
      have hm2 : j % fs.size < fs.size := Nat.mod_lt _ hs
      rw [he] at hu ⊢
      rw [flat_get hlen l _ _ hk hm2, hg _ hk] at hu
      exact (hT _ (by omega)).1 _ _ hu
    · obtain ⟨r, hr, rfl⟩ := List.getElem_of_mem hb
      rw [hg r hr]
      exact (hT r (by omega)).2
end
end Go.Proofs.Ytaoddenadfmdbaa

/- ROWS: a paper, a text. -/
namespace Go.Proofs.Ytaoddenadfmdbaa
open Go.ChangeShapes Go.WideShapes Go.ChangeAt Go.RowKit Go.Joins Go.Deep
section
variable {H : Type} {enc : TypeId × Value → H} {w : World} {base : Nat} {held : Bool}
end
end Go.Proofs.Ytaoddenadfmdbaa

/- ROWS: where a text is replaced, and by what. -/
namespace Go.Proofs.Ytaoddenadfmdbaa
open Go.ChangeShapes Go.WideShapes Go.ChangeAt Go.RowKit Go.Joins Go.Deep
section
variable {H : Type} {enc : TypeId × Value → H} {w : World} {base : Nat} {held : Bool}
end
theorem row_own : ownKnob Try.prog.godebug = none := by kernel_rfl
theorem row_laid : laidOutB Try.prog = true := by kernel_rfl
theorem row_value : ∃ f0 f1 f2 f3 : Field, Try.prog.underlying 86 = some (.struct #[f0, f1, f2, f3]) ∧ (f0.type = 3 ∧ f1.type = 9 ∧ f2.type = 3 ∧ f3.type = 3) ∧
    oneCellFields Try.prog #[f0, f1, f2, f3] = true ∧ Try.prog.cellsOf 86 = 4 := ⟨_, _, _, _, Try.underlying86, ⟨by kernel_rfl, by kernel_rfl, by kernel_rfl, by kernel_rfl⟩, by kernel_rfl, by kernel_rfl⟩
theorem row_sign : ∃ f0 f1 f2 f3 f4 : Field, Try.prog.underlying 56 = some (.struct #[f0, f1, f2, f3, f4]) ∧ (f0.type = 9 ∧ f1.type = 3 ∧ f2.type = 3 ∧ f3.type = 4 ∧ f4.type = 54) ∧
    oneCellFields Try.prog #[f0, f1, f2, f3, f4] = true ∧ Try.prog.cellsOf 56 = 5 := ⟨_, _, _, _, _, Try.underlying56, ⟨by kernel_rfl, by kernel_rfl, by kernel_rfl, by kernel_rfl, by kernel_rfl⟩, by kernel_rfl, by kernel_rfl⟩
theorem row_list : ∃ f0 f1 : Field, Try.prog.underlying 24 = some (.struct #[f0, f1]) ∧ f0.type = 3 ∧ f1.type = 22 ∧ f0.offset = 0 ∧ f1.offset = 1 ∧ Try.prog.cellsOf 24 = 2 ∧ Try.prog.cellsOf 3 = 1 ∧ Try.prog.cellsOf 22 = 1 :=
  ⟨_, _, Try.underlying24, by kernel_rfl, by kernel_rfl, by kernel_rfl, by kernel_rfl, by kernel_rfl, by kernel_rfl, by kernel_rfl⟩
section
variable {H : Type} {enc : TypeId × Value → H} {w : World} {base : Nat} {held : Bool}
set_option maxRecDepth 100000 in
theorem int1 {n : Nat} {v : Value} {y : DataW H × List MemPlace} (h : DataW.trod enc Try.prog w base (fun _ => true) held n 3 [v] = some y) : ∃ a : Int, v = .int .i64 a := by
  obtain ⟨a, ha, _, _⟩ := DataW.trod_int Try.underlying3 h
  injection ha with ha
  exact ⟨a, ha⟩
set_option maxRecDepth 100000 in
theorem bool1 {n : Nat} {v : Value} {y : DataW H × List MemPlace} (h : DataW.trod enc Try.prog w base (fun _ => true) held n 4 [v] = some y) : ∃ a : Bool, v = .bool a := by
  obtain ⟨a, ha, _⟩ := DataW.trod_bool Try.underlying4 h
  injection ha with ha
  exact ⟨a, ha⟩
set_option maxRecDepth 100000 in
theorem str1 {n : Nat} {v : Value} {y : DataW H × List MemPlace} (h : DataW.trod enc Try.prog w base (fun _ => true) held n 9 [v] = some y) : ∃ a : ByteArray, v = .string a := by
  obtain ⟨a, ha, _⟩ := DataW.trod_string Try.underlying9 h
  injection ha with ha
  exact ⟨a, ha⟩
set_option maxRecDepth 100000 in
theorem open_vals {n : Nat} {v : Value} {y : DataW H × List MemPlace} (h : DataW.trod enc Try.prog w base (fun _ => true) held n 54 [v] = some y) : ∃ (A : Option Addr) (l : List Vl) (c : Nat), v = .slice A l.length c ∧ l.length ≤ maxLen ∧ Vls w w.heap.size A l := by
  obtain ⟨f0, f1, f2, f3, hu, ⟨t0, t1, t2, t3⟩, ho, hC⟩ := row_value
  obtain ⟨A, l, c, rfl, h1, h2, h3, _⟩ := open_structs (α := Vl) Vl.cells (fun _ => True) (fun a => rfl) Try.underlying54 hu ho hC (by simp) (fun V hV => by
    obtain ⟨_, _, g0⟩ := hV 0 f0 rfl
    obtain ⟨_, _, g1⟩ := hV 1 f1 rfl
    obtain ⟨_, _, g2⟩ := hV 2 f2 rfl
    obtain ⟨_, _, g3⟩ := hV 3 f3 rfl
    rw [t0] at g0; rw [t1] at g1; rw [t2] at g2; rw [t3] at g3
    obtain ⟨a0, e0⟩ := int1 g0
    obtain ⟨a1, e1⟩ := str1 g1
    obtain ⟨a2, e2⟩ := int1 g2
    obtain ⟨a3, e3⟩ := int1 g3
    refine ⟨⟨a0, a1, a2, a3⟩, fun j hj => ?_, trivial⟩
    match j, hj with
    | 0, _ => rw [e0]; rfl
    | 1, _ => rw [e1]; rfl
    | 2, _ => rw [e2]; rfl
    | 3, _ => rw [e3]; rfl) h
  exact ⟨A, l, c, rfl, by omega, h3⟩
set_option maxRecDepth 100000 in
theorem open_signs {n : Nat} {v : Value} {y : DataW H × List MemPlace} (h : DataW.trod enc Try.prog w base (fun _ => true) held n 22 [v] = some y) : ∃ (A : Option Addr) (l : List Sg) (c : Nat), v = .slice A l.length c ∧ l.length ≤ maxLen ∧ (∀ s ∈ l, s.vals.length ≤ maxLen) ∧ Sgs w w.heap.size A l := by
  obtain ⟨f0, f1, f2, f3, f4, hu, ⟨t0, t1, t2, t3, t4⟩, ho, hC⟩ := row_sign
  obtain ⟨A, l, c, rfl, h1, h2, h3, h4⟩ := open_structs (α := Sg) Sg.cells (fun s => s.vals.length ≤ maxLen ∧ Vls w w.heap.size s.va s.vals) (fun a => rfl) Try.underlying22 hu ho hC (by simp) (fun V hV => by
    obtain ⟨_, _, g0⟩ := hV 0 f0 rfl
    obtain ⟨_, _, g1⟩ := hV 1 f1 rfl
    obtain ⟨_, _, g2⟩ := hV 2 f2 rfl
    obtain ⟨_, _, g3⟩ := hV 3 f3 rfl
    obtain ⟨_, _, g4⟩ := hV 4 f4 rfl
    rw [t0] at g0; rw [t1] at g1; rw [t2] at g2; rw [t3] at g3; rw [t4] at g4
    obtain ⟨a0, e0⟩ := str1 g0
    obtain ⟨a1, e1⟩ := int1 g1
    obtain ⟨a2, e2⟩ := int1 g2
    obtain ⟨a3, e3⟩ := bool1 g3
    obtain ⟨A4, l4, c4, e4, h4, r4⟩ := open_vals g4
    refine ⟨⟨a0, a1, a2, a3, l4, A4, c4⟩, fun j hj => ?_, h4, r4⟩
    match j, hj with
    | 0, _ => rw [e0]; rfl
    | 1, _ => rw [e1]; rfl
    | 2, _ => rw [e2]; rfl
    | 3, _ => rw [e3]; rfl
    | 4, _ => rw [e4]; rfl) h
  exact ⟨A, l, c, rfl, by omega, fun s hs => (h4 s hs).1, h3, fun s hs => (h4 s hs).2⟩
set_option maxRecDepth 100000 in
theorem open_list2 {n : Nat} {v0 v1 : Value} {y : DataW H × List MemPlace} (h : DataW.trod enc Try.prog w base (fun _ => true) held n 24 [v0, v1] = some y) :
    ∃ (P : Int) (A : Option Addr) (ss : List Sg) (c : Nat), v0 = .int .i64 P ∧ v1 = .slice A ss.length c ∧ ss.length ≤ maxLen ∧ (∀ s ∈ ss, s.vals.length ≤ maxLen) ∧ Sgs w w.heap.size A ss := by
  obtain ⟨f0, f1, hu, t0, t1, o0, o1, c2, ci, cs⟩ := row_list
  obtain ⟨y0, y1, m, _, _, g0, g1⟩ := trod_struct2 hu h
  simp [o0, o1, t0, t1, ci, cs] at g0 g1
  obtain ⟨P, rfl⟩ := int1 g0
  obtain ⟨A, ss, c, rfl, h1, h2, h3⟩ := open_signs g1
  exact ⟨P, A, ss, c, rfl, rfl, h1, h2, h3⟩
set_option maxRecDepth 100000 in
theorem open_list {r : Reach} {b0 : Nat} {v : Value} {d : DataW H} {p : List MemPlace} (hv : Value.okWide Try.prog w r b0 24 v) (h : DataW.Trod enc Try.prog w base (fun _ => true) held 24 v d p) :
    ∃ (P : Int) (A : Option Addr) (ss : List Sg) (c : Nat), v = .agg #[.int .i64 P, .slice A ss.length c] ∧ ss.length ≤ maxLen ∧ (∀ s ∈ ss, s.vals.length ≤ maxLen) ∧ Sgs w w.heap.size A ss := by
  obtain ⟨g0, g1, hu, _, _, _, _, c2, _, _⟩ := row_list
  obtain ⟨cs, rfl, hsz⟩ := okWide_struct hu hv
  obtain ⟨fuel, hf⟩ := h
  have h2 := hsz.trans c2
  obtain ⟨a0, a1, rfl⟩ : ∃ a0 a1, cs = #[a0, a1] := ⟨cs[0]'(by omega), cs[1]'(by omega), Array.ext (by simp [h2]) (fun i h3 h4 => by
    have : i = 0 ∨ i = 1 := by simp at h4; omega
    rcases this with rfl | rfl <;> rfl)⟩
  obtain ⟨P, A, ss, c, rfl, rfl, q1, q2, q3⟩ := open_list2 hf
  exact ⟨P, A, ss, c, rfl, q1, q2, q3⟩
end
theorem row_cell : ∃ f0 f1 f2 : Field, Try.prog.underlying 30 = some (.struct #[f0, f1, f2]) ∧ (f0.type = 3 ∧ f1.type = 3 ∧ f2.type = 26) ∧
    oneCellFields Try.prog #[f0, f1, f2] = true ∧ Try.prog.cellsOf 30 = 3 := ⟨_, _, _, Try.underlying30, ⟨by kernel_rfl, by kernel_rfl, by kernel_rfl⟩, by kernel_rfl, by kernel_rfl⟩
section
variable {H : Type} {enc : TypeId × Value → H} {w : World} {base : Nat} {held : Bool}
theorem rd_of {A : Option Addr} {zs : List Int} {len : Nat} {a : Addr} (hA : A = some a) (hl : len ≤ zs.length) (hc : ∀ i, i < zs.length → w.cell? (a.add i) = some (.int .i64 (zs.getD i 0))) : Rd w w.heap.size A (zs.take len) := by
  subst hA
  have hlen : (zs.take len).length = len := by simp; omega
  refine ⟨by simp [ints], fun hn => ⟨a, rfl, ?_, fun j u hu => ?_⟩⟩
  · have := World.block_lt_of_cell? _ _ (hc 0 (by rw [hlen] at hn; omega))
    rwa [block_of_add] at this
  · obtain ⟨hj, rfl⟩ := List.getElem?_eq_some_iff.1 hu
    have hj' : j < len := by simp [ints] at hj; omega
    rw [hc j (by omega)]
    simp [ints, List.getD, show j < zs.length by omega]
set_option maxRecDepth 100000 in
theorem open_line2 {r : Reach} {b0 : Nat} {v : Value} {d : DataW H} {p : List MemPlace} (hv : Value.okWide Try.prog w r b0 26 v) (h : DataW.Trod enc Try.prog w base (fun _ => true) held 26 v d p) :
    ∃ (A : Option Addr) (l : List Int) (c : Nat), v = .slice A l.length c ∧ (A = none → c = 0) ∧ l.length ≤ c ∧ l.length ≤ maxLen ∧ Rd w w.heap.size A l := by
  obtain ⟨a0, len, cap, rfl⟩ := okWide_slice Try.underlying26 hv
  obtain ⟨fuel, hf⟩ := h
  rcases open_ints Try.underlying26 Try.underlying3 (by kernel_rfl) hf with ⟨hcs, _⟩ | ⟨a, len', cap', zs, hcs, _, hl, hm, hz, _, hcell, _⟩
  · simp [Value.cells] at hcs
    obtain ⟨rfl, rfl, rfl⟩ := hcs
    exact ⟨none, [], 0, rfl, fun _ => rfl, Nat.le_refl _, by simp, by simp [ints], fun h => by simp at h⟩
  · simp [Value.cells] at hcs
    obtain ⟨rfl, rfl, rfl⟩ := hcs
    simp only [if_true] at hz
    have hlen : (zs.take len).length = len := by simp; omega
    exact ⟨some a, zs.take len, cap, by rw [hlen], (fun h => by cases h), by rw [hlen]; exact hl, by rw [hlen]; omega, rd_of rfl (by omega) hcell⟩
set_option maxRecDepth 100000 in
theorem open_line3 {n : Nat} {v : Value} {y : DataW H × List MemPlace} (hf : DataW.trod enc Try.prog w base (fun _ => true) held n 26 [v] = some y) : ∃ (A : Option Addr) (l : List Int) (c : Nat), v = .slice A l.length c ∧ l.length ≤ maxLen ∧ Rd w w.heap.size A l := by
  rcases open_ints Try.underlying26 Try.underlying3 (by kernel_rfl) hf with ⟨hcs, _⟩ | ⟨a, len, cap, zs, hcs, _, hl, hm, hz, _, hcell, _⟩
  · injection hcs with hcs
    subst hcs
    exact ⟨none, [], 0, rfl, by simp, by simp [ints], fun h => by simp at h⟩
  · injection hcs with hcs
    subst hcs
    simp only [if_true] at hz
    have hlen : (zs.take len).length = len := by simp; omega
    exact ⟨some a, zs.take len, cap, by rw [hlen], by rw [hlen]; omega, rd_of rfl (by omega) hcell⟩
set_option maxRecDepth 100000 in
theorem open_cells {n : Nat} {v : Value} {y : DataW H × List MemPlace} (h : DataW.trod enc Try.prog w base (fun _ => true) held n 25 [v] = some y) : ∃ (A : Option Addr) (l : List Cl) (c : Nat), v = .slice A l.length c ∧ l.length ≤ maxLen ∧ (∀ s ∈ l, s.signs.length ≤ maxLen) ∧ Cls w w.heap.size A l := by
  obtain ⟨f0, f1, f2, hu, ⟨t0, t1, t2⟩, ho, hC⟩ := row_cell
  obtain ⟨A, l, c, rfl, h1, h2, h3, h4⟩ := open_structs (α := Cl) Cl.cells (fun s => s.signs.length ≤ maxLen ∧ Rd w w.heap.size s.sa s.signs) (fun a => rfl) Try.underlying25 hu ho hC (by simp) (fun V hV => by
    obtain ⟨_, _, g0⟩ := hV 0 f0 rfl
    obtain ⟨_, _, g1⟩ := hV 1 f1 rfl
    obtain ⟨_, _, g2⟩ := hV 2 f2 rfl
    rw [t0] at g0; rw [t1] at g1; rw [t2] at g2
    obtain ⟨a0, e0⟩ := int1 g0
    obtain ⟨a1, e1⟩ := int1 g1
    obtain ⟨A4, l4, c4, e4, h4, r4⟩ := open_line3 g2
    refine ⟨⟨a0, a1, l4, A4, c4⟩, fun j hj => ?_, h4, r4⟩
    match j, hj with
    | 0, _ => rw [e0]; rfl
    | 1, _ => rw [e1]; rfl
    | 2, _ => rw [e4]; rfl) h
  exact ⟨A, l, c, rfl, by omega, fun s hs => (h4 s hs).1, h3, fun s hs => (h4 s hs).2⟩
end
end Go.Proofs.Ytaoddenadfmdbaa
