/- ROWS: an argument that is a slice of blocks. -/
import Derived.Test.YtoljnbbhoeloeaaRowLs
import Derived.Test.YtoljnbbhoeloeaaBloc
import Derived.Deep.Strs
namespace Go.Proofs.Ytoljnbbhoeloeaa
open Go.ChangeShapes Go.WideShapes Go.ChangeAt Go.RowKit Go.Joins Go.Deep
theorem row_blk : ∃ f0 f1 f2 : Field, Try.prog.underlying 85 = some (.struct #[f0, f1, f2]) ∧ f0.type = 22 ∧ f1.type = 22 ∧ f2.type = 23 ∧ f0.offset = 0 ∧ f1.offset = 1 ∧ f2.offset = 2 ∧ Try.prog.cellsOf 85 = 3 ∧ Try.prog.cellsOf 22 = 1 ∧ Try.prog.cellsOf 23 = 1 :=
  ⟨_, _, _, Try.underlying85, by kernel_rfl, by kernel_rfl, by kernel_rfl, by kernel_rfl, by kernel_rfl, by kernel_rfl, by kernel_rfl, by kernel_rfl, by kernel_rfl⟩
section
variable {H : Type} {enc : TypeId × Value → H} {w : World} {base : Nat} {held : Bool}
set_option maxRecDepth 100000 in
theorem open_ln1 {fuel : Nat} {v : Value} {x : DataW H × List MemPlace} (hf : DataW.trod enc Try.prog w base (fun _ => true) held fuel 22 [v] = some x) : ∃ t : Ln, v = t.val ∧ Rd w w.heap.size t.1 t.2.2 ∧ t.2.2.length ≤ 9223372036854775807 := by
  rcases open_ints Try.underlying22 Try.underlying3 (by kernel_rfl) hf with ⟨hcs, _⟩ | ⟨a, len, cap, zs, hcs, _, hl, hm, hz, _, hcell, _⟩
  · simp at hcs
    subst hcs
    exact ⟨(none, 0, []), rfl, ⟨by simp [ints], fun h => by simp at h⟩, by simp⟩
  · simp at hcs
    subst hcs
    simp only [if_true] at hz
    have hlen : (zs.take len).length = len := by simp; omega
    refine ⟨(some a, cap, zs.take len), ?_, rd_of rfl (by omega) hcell, ?_⟩
    · show _ = Value.slice (some a) (zs.take len).length cap
      rw [hlen]
    · show (zs.take len).length ≤ _
      rw [hlen]
      unfold maxLen at hm
      omega
set_option maxRecDepth 100000 in
theorem open_lns1 {fuel : Nat} {v : Value} {x : DataW H × List MemPlace} (hf : DataW.trod enc Try.prog w base (fun _ => true) held fuel 23 [v] = some x) : ∃ (A : Option Addr) (c : Nat) (ls : List Ln), v = .slice A ls.length c ∧ Lns w w.heap.size A ls := by
  rcases open_slice1 Try.underlying23 (by kernel_rfl) hf with ⟨hcs, _⟩ | ⟨a, len, cap, m, n, V, D, Pl, hcs, _, hl, hm, hmm, _, hx⟩
  · simp at hcs
    subst hcs
    exact ⟨none, 0, [], rfl, ⟨rfl, fun h => by simp at h⟩, fun t ht => by cases ht⟩
  · simp at hcs
    subst hcs
    simp only [if_true] at hmm
    obtain ⟨T, hT⟩ := choose_lt (α := Ln) (n := len) (p := fun i t => V i = t.val ∧ Rd w w.heap.size t.1 t.2.2 ∧ t.2.2.length ≤ 9223372036854775807) fun i hi => open_ln1 (hx i (by omega)).2
    obtain ⟨ls, hls⟩ : ∃ ls : List Ln, ls = (List.range len).map T := ⟨_, rfl⟩
    have hlen : ls.length = len := by rw [hls]; simp
    have hg : ∀ r (hr : r < ls.length), ls[r] = T r := fun r hr => by simp [hls]
    have hcell : ∀ r (hr : r < ls.length), w.cell? (a.add r) = some ls[r].val := fun r hr => by
      rw [hg r hr, ← (hT r (by omega)).1]
      exact (hx r (by omega)).1
    refine ⟨some a, cap, ls, by rw [hlen], ⟨by simp [vals], fun hn => ⟨a, rfl, ?_, fun j u hu => ?_⟩⟩, fun t ht => ?_⟩
    · have := World.block_lt_of_cell? _ _ (hcell 0 hn)
      rwa [block_of_add] at this
    · obtain ⟨hj, rfl⟩ := List.getElem?_eq_some_iff.1 hu
      have hj' : j < ls.length := by simpa [vals] using hj
      rw [hcell j hj']
      simp [vals]
    · obtain ⟨r, hr, rfl⟩ := List.getElem_of_mem ht
      rw [hg r hr]
      exact (hT r (by omega)).2.1
/-- What a block's three cells are. -/
def BkAt (w : World) (a : Addr) (i : Nat) (b : Bk) : Prop := (∀ j u, b.cells[j]? = some u → w.cell? (a.add (i * 3 + j)) = some u) ∧ Rd w w.heap.size b.l.1 b.l.2.2 ∧ Rd w w.heap.size b.r.1 b.r.2.2 ∧ Lns w w.heap.size b.ra b.rows ∧ b.l.2.2.length ≤ 9223372036854775807 ∧ b.r.2.2.length ≤ 9223372036854775807
instance : Inhabited Bk := ⟨⟨default, default, none, 0, []⟩⟩
set_option maxRecDepth 100000 in
theorem open_blocks {r : Reach} {b0 : Nat} {v : Value} {d : DataW H} {p : List MemPlace} (hv : Value.okWide Try.prog w r b0 68 v) (h : DataW.Trod enc Try.prog w base (fun _ => true) held 68 v d p) :
    ∃ (A : Option Addr) (bs : List Bk) (c : Nat), v = .slice A bs.length c ∧ (bs.length ≤ maxLen ∧ bs.length ≤ c) ∧ Bks w w.heap.size A bs := by
  obtain ⟨a0, len, cap, rfl⟩ := okWide_slice Try.underlying68 hv
  obtain ⟨fuel, hf⟩ := h
  obtain ⟨f0, f1, f2, hu, e0, e1, e2, o0, o1, o2, c3, c1, c2⟩ := row_blk
  rcases open_slice Try.underlying68 hf with ⟨hcs, _⟩ | ⟨a, len', cap', m, n, D, Pl, hcs, _, hl, hm, hmm, _, hx⟩
  · simp [Value.cells] at hcs
    obtain ⟨rfl, rfl, rfl⟩ := hcs
    exact ⟨none, [], 0, rfl, by simp, ⟨rfl, fun h => by simp at h⟩, fun t ht => by cases ht⟩
  · simp [Value.cells] at hcs
    obtain ⟨rfl, rfl, rfl⟩ := hcs
    simp only [if_true] at hmm
    obtain ⟨T, hT⟩ := choose_lt (α := Bk) (n := len) (p := fun i b => BkAt w a i b) fun i hi => by
      obtain ⟨cs', h1, h2⟩ := hx i (by omega)
      rw [c3] at h1
      obtain ⟨_, hlen, hcell⟩ := World.cells?_some h1
      obtain ⟨y0, y1, y2, k, _, _, g0, g1, g2⟩ := trod_struct3 hu h2
      match cs', hlen with
      | [v0, v1, v2], _ =>
        simp [o0, o1, o2, e0, e1, e2, c1, c2] at g0 g1 g2
        obtain ⟨t0, rfl, r0, n0⟩ := open_ln1 g0
        obtain ⟨t1, rfl, r1, n1⟩ := open_ln1 g1
        obtain ⟨A2, k2, ls, rfl, r2⟩ := open_lns1 g2
        refine ⟨⟨t0, t1, A2, k2, ls⟩, fun j u hu => ?_, r0, r1, r2, n0, n1⟩
        have q0 := hcell 0 (by omega)
        have q1 := hcell 1 (by omega)
        have q2 := hcell 2 (by omega)
        rw [Go.Deep.add_add] at q0 q1 q2
        match j, hu with
        | 0, hu => simp [Bk.cells] at hu; subst hu; simpa using q0
        | 1, hu => simp [Bk.cells] at hu; subst hu; simpa using q1
        | 2, hu => simp [Bk.cells] at hu; subst hu; simpa using q2
    obtain ⟨bs, hbs⟩ : ∃ bs : List Bk, bs = (List.range len).map T := ⟨_, rfl⟩
    have hlen : bs.length = len := by rw [hbs]; simp
    have hg : ∀ r (hr : r < bs.length), bs[r] = T r := fun r hr => by simp [hbs]
    refine ⟨some a, bs, cap, by rw [hlen], by rw [hlen]; exact ⟨by omega, by omega⟩, ⟨flatB_len bs, fun hn => ⟨a, rfl, ?_, fun j u hu => ?_⟩⟩, fun b hb => ?_⟩
    · have h0 := (hT 0 (by omega)).1 0 _ rfl
      have := World.block_lt_of_cell? _ _ h0
      rwa [block_of_add] at this
    · have hj := (List.getElem?_eq_some_iff.1 hu).1
      rw [flatB_len] at hj
      have hk : j / 3 < bs.length := by omega
      have he : j = j / 3 * 3 + j % 3 := by omega
      rw [he] at hu ⊢
      rw [flatB_get bs (j / 3) (j % 3) hk (by omega), hg _ hk] at hu
      exact (hT _ (by omega)).1 _ _ hu
    · obtain ⟨r, hr, rfl⟩ := List.getElem_of_mem hb
      rw [hg r hr]
      exact (hT r (by omega)).2
end
end Go.Proofs.Ytoljnbbhoeloeaa
