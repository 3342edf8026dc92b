/- ROWS: an argument that is a slice of copies, each a slice of tallies. -/
import Derived.Test.YtoljnbbhoeloeaaRowTs
import Derived.Test.YtoljnbbhoeloeaaCheck
namespace Go.Proofs.Ytoljnbbhoeloeaa
open Go.ChangeShapes Go.WideShapes Go.ChangeAt Go.RowKit Go.Joins Go.Deep
/-- A copy: its address, its capacity, its tallies. -/
abbrev TLn := Option Addr × Nat × List (Int × Int)
def tval (t : TLn) : Value := .slice t.1 t.2.2.length t.2.1
def tvals (ls : List TLn) : List Value := ls.map tval
/-- Copies: a row of slices, and the tallies of each. -/
structure Tls (w : World) (B : Nat) (A : Option Addr) (ls : List TLn) : Prop where
  row : Reads w B 1 A ls.length (tvals ls)
  ln : ∀ t ∈ ls, Rp w B t.1 t.2.2
theorem Tls.below {w w' : World} {B : Nat} {A : Option Addr} {ls : List TLn} (h : Tls w B A ls) (hb : Below B w w') : Tls w' B A ls := ⟨Reads.below h.row hb, fun t ht => (h.ln t ht).below hb⟩
theorem Tls.more {w : World} {B B' : Nat} {A : Option Addr} {ls : List TLn} (h : Tls w B A ls) (hb : B ≤ B') : Tls w B' A ls := ⟨Reads.more h.row hb, fun t ht => (h.ln t ht).more hb⟩
theorem Tls.at {w : World} {B : Nat} {A : Option Addr} {ls : List TLn} (h : Tls w B A ls) (hl : 0 < ls.length) :
    ∃ b o, A = some ⟨b, o, none⟩ ∧ b < B ∧ ∀ j (hj : j < ls.length), w.cell? ⟨b, o + j, none⟩ = some (.slice ls[j].1 ls[j].2.2.length ls[j].2.1) := by
  obtain ⟨b, o, rfl, hb, hc⟩ := h.row.at0 hl (by simpa [tvals] using hl)
  exact ⟨b, o, rfl, hb, fun j hj => hc j _ (by simp [tvals, hj, tval])⟩
section
variable {H : Type} {enc : TypeId × Value → H} {w : World} {base : Nat} {held : Bool}
set_option maxRecDepth 100000 in
theorem open_tl1 {fuel : Nat} {v : Value} {x : DataW H × List MemPlace} (hf : DataW.trod enc Try.prog w base (fun _ => true) held fuel 63 [v] = some x) : ∃ t : TLn, v = tval t ∧ Rp w w.heap.size t.1 t.2.2 := by
  obtain ⟨f0, f1, hu, e0, e1, o0, o1, c2, c1⟩ := row_tal
  rcases open_slice_pairs Try.underlying63 hu c2 o0 o1 (by rw [e0]; exact c1) (by rw [e1]; exact c1) hf with ⟨hcs, _⟩ | ⟨a, len, cap, m, n, V0, V1, D0, D1, P0, P1, hcs, _, hl, hm, hmm, _, hx⟩
  · simp at hcs
    subst hcs
    exact ⟨(none, 0, []), rfl, rfl, fun h => by simp at h⟩
  · simp at hcs
    subst hcs
    simp only [if_true] at hmm
    obtain ⟨ps, hps, hrp⟩ := rp_of (w := w) (a := a) (len := len) (V0 := V0) (V1 := V1) fun i hi => by
      obtain ⟨h1, h2, h3, h4⟩ := hx i (by omega)
      rw [e0] at h3
      rw [e1] at h4
      obtain ⟨x, hx1, _, _⟩ := DataW.trod_int Try.underlying3 h3
      obtain ⟨y, hy1, _, _⟩ := DataW.trod_int Try.underlying3 h4
      injection hx1 with hx1; injection hy1 with hy1
      exact ⟨x, y, hx1, hy1, by rw [h1, hx1], by rw [h2, hy1]⟩
    exact ⟨(some a, cap, ps), by rw [tval, hps], hrp⟩
set_option maxRecDepth 100000 in
theorem open_tlss {r : Reach} {b0 : Nat} {v : Value} {d : DataW H} {p : List MemPlace} (hv : Value.okWide Try.prog w r b0 73 v) (h : DataW.Trod enc Try.prog w base (fun _ => true) held 73 v d p) :
    ∃ (A : Option Addr) (ls : List TLn) (c : Nat), v = .slice A ls.length c ∧ ls.length ≤ maxLen ∧ Tls w w.heap.size A ls := by
  obtain ⟨a0, len, cap, rfl⟩ := okWide_slice Try.underlying73 hv
  obtain ⟨fuel, hf⟩ := h
  rcases open_slice1 Try.underlying73 (by kernel_rfl) hf with ⟨hcs, _⟩ | ⟨a, len', cap', m, n, V, D, Pl, hcs, _, hl, hm, hmm, _, hx⟩
  · simp [Value.cells] at hcs
    obtain ⟨rfl, rfl, rfl⟩ := hcs
    exact ⟨none, [], 0, rfl, by simp, ⟨rfl, fun h => by simp at h⟩, fun t ht => by cases ht⟩
  · simp [Value.cells] at hcs
    obtain ⟨rfl, rfl, rfl⟩ := hcs
    simp only [if_true] at hmm
    obtain ⟨T, hT⟩ := choose_lt (α := TLn) (n := len) (p := fun i t => V i = tval t ∧ Rp w w.heap.size t.1 t.2.2) fun i hi => open_tl1 (hx i (by omega)).2
    obtain ⟨ls, hls⟩ : ∃ ls : List TLn, ls = (List.range len).map T := ⟨_, rfl⟩
    have hlen : ls.length = len := by rw [hls]; simp
    have hg : ∀ r (hr : r < ls.length), ls[r] = T r := fun r hr => by simp [hls]
    have hcell : ∀ r (hr : r < ls.length), w.cell? (a.add r) = some (tval ls[r]) := fun r hr => by
      rw [hg r hr, ← (hT r (by omega)).1]
      exact (hx r (by omega)).1
    refine ⟨some a, ls, cap, by rw [hlen], by rw [hlen]; omega, ⟨by simp [tvals], fun hn => ⟨a, rfl, ?_, fun j u hu => ?_⟩⟩, fun t ht => ?_⟩
    · have := World.block_lt_of_cell? _ _ (hcell 0 hn)
      rwa [block_of_add] at this
    · obtain ⟨hj, rfl⟩ := List.getElem?_eq_some_iff.1 hu
      have hj' : j < ls.length := by simpa [tvals] using hj
      rw [hcell j hj']
      simp [tvals]
    · obtain ⟨r, hr, rfl⟩ := List.getElem_of_mem ht
      rw [hg r hr]
      exact (hT r (by omega)).2
end
end Go.Proofs.Ytoljnbbhoeloeaa
