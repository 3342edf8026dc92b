/- MEMORY: a slice of structs of two numbers and a slice of numbers, that the call itself makes: it is appended to, and its last element is written. -/
import Derived.Test.YtaoddenadfmdbaaBaseC
namespace Go.Proofs.Ytaoddenadfmdbaa
open Go.RowKit


theorem own_ne_obj {w : World} {base : Nat} {e e' : TypeId} {size n g g' : Nat} {v : Value} {xs : List Value} (h : w.ownsRow base e size v n xs) (hv : v.ownBlock = some g) {c : Array Value} {f : Nat × Nat} (ho : w.heap[g']? = some (.cells c e' f)) (hne : e ≠ e') : g ≠ g' := by
  intro e1
  obtain ⟨c1, h1⟩ := own_type h hv
  rw [e1, ho] at h1
  injection h1 with h1
  injection h1 with _ h2 _
  exact hne h2.symm
theorem cell_new1_at {n : Nat} (w : World) (x : Value) (t : TypeId) (hn : n = w.heap.size) : (w.alloc (.cells #[x] t)).cell? ⟨n, 0, none⟩ = some x := by subst hn; exact cell_new1 w x t
abbrev En := Int × Int × Value × List Int
def cellsE (es : List En) : List Value := es.flatMap fun t => [.int .i64 t.1, .int .i64 t.2.1, t.2.2.1]
theorem cellsE_snoc (es : List En) (t : En) : cellsE (es ++ [t]) = cellsE es ++ [.int .i64 t.1, .int .i64 t.2.1, t.2.2.1] := by simp [cellsE]
theorem cellsE_len (es : List En) : (cellsE es).length = es.length * 3 := by
  induction es with
  | nil => rfl
  | cons t es ih => simp [cellsE] at *; omega
def SClosed (w : World) (base M : Nat) (es : List En) : Prop := ∀ t ∈ es, w.ownsRow base 3 1 t.2.2.1 t.2.2.2.length (ints t.2.2.2) ∧ ∀ g, t.2.2.1.ownBlock = some g → g < M
/-- All stretches are closed. -/
structure SAll (w : World) (base : Nat) (e : TypeId) (v : Value) (es : List En) : Prop where
  own : w.ownsRow base e 3 v es.length (cellsE es)
  cl : SClosed w base w.heap.size es
  hB : base ≤ w.heap.size
/-- The last one is open: its row lies beyond those of the others. -/
structure SOpen (w : World) (base M : Nat) (e : TypeId) (v : Value) (es : List En) (t : En) : Prop where
  own : w.ownsRow base e 3 v (es.length + 1) (cellsE (es ++ [t]))
  cl : SClosed w base M es
  last : w.ownsRow M 3 1 t.2.2.1 t.2.2.2.length (ints t.2.2.2)
  hB : base ≤ M
  hM : M ≤ w.heap.size
section
variable {w w' : World} {base M : Nat} {e : TypeId} {v v' : Value} {es : List En} {t : En}
theorem SClosed.kept {row : Option Nat} (h : SClosed w base M es) (hg : w.grownBy w' row) (hr : ∀ t ∈ es, t.2.2.1.ownBlock = none ∨ t.2.2.1.ownBlock ≠ row) : SClosed w' base M es :=
  fun t ht => ⟨(h t ht).1.kept hg (hr t ht), (h t ht).2⟩
theorem SClosed.alloc (h : SClosed w base M es) (o : Obj) : SClosed (w.alloc o) base M es := fun t ht => ⟨(h t ht).1.alloc o, (h t ht).2⟩
theorem SClosed.more {M' : Nat} (h : SClosed w base M es) (hM : M ≤ M') : SClosed w base M' es := fun t ht => ⟨(h t ht).1, fun g hg => Nat.lt_of_lt_of_le ((h t ht).2 g hg) hM⟩
theorem SAll.nil (w : World) (base : Nat) (e : TypeId) (hB : base ≤ w.heap.size) : SAll w base e (.slice none 0 0) [] := ⟨World.ownsRow_nil _ _ _ _, (fun t ht => by cases ht), hB⟩
theorem SAll.alloc (h : SAll w base e v es) (o : Obj) : SAll (w.alloc o) base e v es := ⟨h.own.alloc o, (h.cl.alloc o).more (by simp), by have := h.hB; simp; omega⟩
theorem SOpen.alloc (h : SOpen w base M e v es t) (o : Obj) : SOpen (w.alloc o) base M e v es t := ⟨h.own.alloc o, h.cl.alloc o, h.last.alloc o, h.hB, by have := h.hM; simp; omega⟩
theorem SAll.drewN (h : SAll w base e v es) (n : Nat) : SAll (w.drewN n) base e v es := ⟨h.own, h.cl, h.hB⟩
theorem SOpen.drewN (h : SOpen w base M e v es t) (n : Nat) : SOpen (w.drewN n) base M e v es t := ⟨h.own, h.cl, h.last, h.hB, h.hM⟩
/-- A new element, with nothing in its slice. -/
theorem SAll.push (h : SAll w base e v es) (he : e ≠ 3) (a b : Int) (hown : w'.ownsRow base e 3 v' (es.length + 1) (cellsE es ++ [.int .i64 a, .int .i64 b, .slice none 0 0])) (hg : w.grownBy w' v.ownBlock) :
    SOpen w' base w'.heap.size e v' es (a, b, .slice none 0 0, []) :=
  ⟨by rw [cellsE_snoc]; exact hown, (h.cl.kept hg (fun t ht => own_ne (h.cl t ht).1 h.own (fun e' => he e'.symm))).more hg.size, World.ownsRow_nil _ _ _ _, Nat.le_trans h.hB hg.size, Nat.le_refl _⟩
/-- The open one is closed. -/
theorem SOpen.shut (h : SOpen w base M e v es t) : SAll w base e v (es ++ [t]) := by
  refine ⟨by simpa using h.own, fun t' ht => ?_, Nat.le_trans h.hB h.hM⟩
  rcases List.mem_append.1 ht with ht | ht
  · exact (h.cl.more h.hM) t' ht
  · obtain rfl := List.mem_singleton.1 ht
    exact ⟨own_base h.last h.hB, fun g hg => (h.last.lt g hg).2⟩
theorem SAll.base_ {base' : Nat} (h : SAll w base e v es) (hB : base' ≤ base) : SAll w base' e v es := ⟨own_base h.own hB, fun t ht => ⟨own_base (h.cl t ht).1 hB, (h.cl t ht).2⟩, Nat.le_trans hB h.hB⟩
theorem SOpen.form (h : SOpen w base M e v es t) : ∃ g c, v = .slice (some ⟨g, 0, none⟩) (es.length + 1) c ∧ base ≤ g ∧ g < w.heap.size := by
  obtain ⟨g, c, hv, h1, h2⟩ := h.own.form (by omega)
  exact ⟨g, c, hv, h1, h2⟩
theorem SOpen.cells {g c : Nat} (h : SOpen w base M e (.slice (some ⟨g, 0, none⟩) (es.length + 1) c) es t) :
    w.cell? ⟨g, es.length * 3, none⟩ = some (.int .i64 t.1) ∧ w.cell? ⟨g, es.length * 3 + 1, none⟩ = some (.int .i64 t.2.1) ∧ w.cell? ⟨g, es.length * 3 + 2, none⟩ = some t.2.2.1 ∧ ∀ j, w.frozen? ⟨g, j, none⟩ = false := by
  have hl := cellsE_len es
  refine ⟨?_, ?_, ?_, fun j => h.own.frozenAt j⟩
  · rw [h.own.cellAt _ (by omega), cellsE_snoc, List.getElem?_append_right (by omega), hl, Nat.sub_self]; rfl
  · rw [h.own.cellAt _ (by omega), cellsE_snoc, List.getElem?_append_right (by omega), hl, Nat.add_sub_cancel_left]; rfl
  · rw [h.own.cellAt _ (by omega), cellsE_snoc, List.getElem?_append_right (by omega), hl, Nat.add_sub_cancel_left]; rfl
/-- The second number of the open one is written. -/
theorem SOpen.setTo {g c : Nat} (h : SOpen w base M e (.slice (some ⟨g, 0, none⟩) (es.length + 1) c) es t) (he : e ≠ 3) (b : Int) :
    SOpen (w.setCell ⟨g, es.length * 3 + 1, none⟩ (.int .i64 b)) base M e (.slice (some ⟨g, 0, none⟩) (es.length + 1) c) es (t.1, b, t.2.2) := by
  obtain ⟨h1, h2⟩ := h.own.stored (es.length * 3 + 1) (.int .i64 b)
  refine ⟨?_, h.cl.kept h2 (fun t' ht => own_ne (h.cl t' ht).1 h.own (fun e' => he e'.symm)), h.last.kept h2 (own_ne h.last h.own (fun e' => he e'.symm)), h.hB, by simpa [World.setCell] using h.hM⟩
  rw [cellsE_snoc] at h1 ⊢
  rw [List.set_append_right _ _ (by rw [cellsE_len]; omega), cellsE_len, Nat.add_sub_cancel_left] at h1
  exact h1
theorem SOpen.drew (h : SOpen w base M e v es t) : SOpen w.drew base M e v es t := ⟨h.own, h.cl, h.last, h.hB, h.hM⟩
/-- While its slice is appended to, its cells stay. -/
theorem SOpen.grown {g c : Nat} (h : SOpen w base M e (.slice (some ⟨g, 0, none⟩) (es.length + 1) c) es t) (he : e ≠ 3) (hg : w.grownBy w' t.2.2.1.ownBlock) :
    w'.cell? ⟨g, es.length * 3 + 2, none⟩ = some t.2.2.1 ∧ w'.frozen? ⟨g, es.length * 3 + 2, none⟩ = false ∧ g < w'.heap.size := by
  obtain ⟨_, _, h3, h4⟩ := h.cells
  have hlt := (h.own.lt g rfl).2
  have hne : some g ≠ t.2.2.1.ownBlock := by
    rcases own_ne h.own h.last he with h5 | h5
    · cases h5
    · exact h5
  exact ⟨hg.cell h3 hne, (World.frozen?_of_block (a := ⟨g, es.length * 3 + 2, none⟩) (hg.block g hlt hne)).trans (h4 _), Nat.lt_of_lt_of_le hlt hg.size⟩
/-- The slice of the open one has been appended to, and is written back. -/
theorem SOpen.putSlice {g c : Nat} {x : Int} {sv : Value} (h : SOpen w base M e (.slice (some ⟨g, 0, none⟩) (es.length + 1) c) es t) (he : e ≠ 3) (hown : w'.ownsRow M 3 1 sv (t.2.2.2.length + 1) (ints t.2.2.2 ++ [.int .i64 x])) (hg : w.grownBy w' t.2.2.1.ownBlock) :
    SOpen (w'.setCell ⟨g, es.length * 3 + 2, none⟩ sv) base M e (.slice (some ⟨g, 0, none⟩) (es.length + 1) c) es (t.1, t.2.1, sv, t.2.2.2 ++ [x]) := by
  have hk : w'.ownsRow base e 3 (.slice (some ⟨g, 0, none⟩) (es.length + 1) c) (es.length + 1) (cellsE (es ++ [t])) := h.own.kept hg (own_ne h.own h.last he)
  obtain ⟨h1, h2⟩ := hk.stored (es.length * 3 + 2) sv
  have hcl : SClosed w' base M es := h.cl.kept hg (fun t' ht => by
    cases hb : t'.2.2.1.ownBlock with
    | none => exact .inl rfl
    | some g' => exact .inr (fun e1 => by have h3 := (h.cl t' ht).2 g' hb; have h4 := (h.last.lt g' e1.symm).1; omega))
  refine ⟨?_, hcl.kept h2 (fun t' ht => own_ne (hcl t' ht).1 hk (fun e' => he e'.symm)), ?_, h.hB, by have := h.hM; have := hg.size; simp [World.setCell]; omega⟩
  · rw [cellsE_snoc] at h1 ⊢
    rw [List.set_append_right _ _ (by rw [cellsE_len]; omega), cellsE_len, Nat.add_sub_cancel_left] at h1
    exact h1
  · have := hown.kept h2 (own_ne hown hk (fun e' => he e'.symm))
    simpa [ints] using this
end
end Go.Proofs.Ytaoddenadfmdbaa
