/- WALK: what the laws about texts share: texts that are answered, boxes. -/
import Derived.Test.YtddbnggficlcfaaArgs
import Derived.Test.YtddbnggficlcfaaTextL
namespace Go.Proofs.Ytddbnggficlcfaa
open Go.RowKit
theorem txt_out {E : Int} {L : List Nd} {W : World} {e : Ending} {w' : World} (hp : TxtPost E L W e w') : ∃ (A' : Option Addr) (c' : Nat), e = .returned (.tuple #[.agg #[.slice A' L.length c'], .int .i64 E]) ∧ Nds w' w'.heap.size A' L ∧ Below W.heap.size W w' := by
  obtain ⟨v, rfl, ho, hb⟩ := hp
  obtain ⟨A', c', rfl⟩ := own_slice ho
  exact ⟨A', c', rfl, Reads.of_own ho, hb⟩
theorem txt_own {E : Int} {L : List Nd} {W : World} {e : Ending} {w' : World} (hp : TxtPost E L W e w') : ∃ (A' : Option Addr) (c' : Nat), e = .returned (.tuple #[.agg #[.slice A' L.length c'], .int .i64 E]) ∧ w'.ownsRow W.heap.size 78 8 (.slice A' L.length c') L.length (flatN L) ∧ Below W.heap.size W w' := by
  obtain ⟨v, rfl, ho, hb⟩ := hp
  obtain ⟨A', c', rfl⟩ := own_slice ho
  exact ⟨A', c', rfl, ho, hb⟩
theorem txt_same {w : World} {L : List Nd} {A B : Option Addr} (n : Nat) (hn : n = L.length) (h : n ≤ 1000000) (c d : Nat) (ra : Nds w w.heap.size A L) (rb : Nds w w.heap.size B L) : Calls Try.prog 22 #[.agg #[.slice A n c], .agg #[.slice B n d]] w fun e w' => e = .returned (.bool true) ∧ Below w.heap.size w w' := by
  subst hn
  exact (sameText_any L L A B c d h h w ra rb).mono fun e w' hb => hb.get (iff_of_true rfl rfl)
/-- A box with a value. -/
structure Bx (w : World) (b : Nat) (v : Value) : Prop where
  lt : b < w.heap.size
  cell : w.cell? ⟨b, 0, none⟩ = some v
theorem Bx.new {w : World} {b : Nat} {v : Value} {T : TypeId} (h : b = w.heap.size) : Bx (w.alloc (.cells #[v] T)) b v := ⟨by rw [h]; simp, cell_here h rfl⟩
theorem bxn {w w' : World} {b : Nat} {v : Value} (h : Bx w b v) (hb : Below w.heap.size w w') : Bx w' b v := ⟨Nat.lt_of_lt_of_le h.lt hb.size, (hb.cell (p := ⟨b, 0, none⟩) h.lt).trans h.cell⟩
theorem bxn_d {w w' : World} {b : Nat} {v : Value} (h : Bx w b v) (hb : Below w.drew.heap.size w.drew w') : Bx w' b v := bxn (w := w.drew) ⟨h.lt, h.cell⟩ hb
/-- An empty box. -/
structure Bxf (w : World) (b : Nat) : Prop where
  lt : b < w.heap.size
  cell : w.cell? ⟨b, 0, none⟩ = some (.slice none 0 0)
  free : w.frozen? ⟨b, 0, none⟩ = false
theorem Bxf.new {w : World} {b : Nat} {T : TypeId} (h : b = w.heap.size) : Bxf (w.alloc (.cells #[.slice none 0 0] T)) b := ⟨by rw [h]; simp, cell_here h rfl, free_here h⟩
theorem Bxf.kept {w w' : World} {b : Nat} (h : Bxf w b) (hb : Below w.heap.size w w') : Bxf w' b := ⟨Nat.lt_of_lt_of_le h.lt hb.size, (hb.cell (p := ⟨b, 0, none⟩) h.lt).trans h.cell, (hb.frozen (p := ⟨b, 0, none⟩) h.lt).trans h.free⟩
theorem Bxf.own {w w' : World} {b n c : Nat} {A : Option Addr} {L : List Nd} (h : Bxf w b) (hb : Below w.heap.size w w') (ho : w'.ownsRow w.heap.size 78 8 (.slice A n c) n (flatN L)) (hn : n = L.length) : Bx (w'.setCell ⟨b, 0, none⟩ (.slice A n c)) b (.slice A n c) ∧ Nds (w'.setCell ⟨b, 0, none⟩ (.slice A n c)) (w'.setCell ⟨b, 0, none⟩ (.slice A n c)).heap.size A L := by
  have h2 := h.kept hb
  exact ⟨⟨by have := h2.lt; simp [World.setCell]; exact this, World.cell?_setCell_same _ _ _ h2.cell⟩, Reads.of_own (c := c) (by rw [← hn]; exact ownsRow_setCell_below ho (a := ⟨b, 0, none⟩) h.lt _)⟩
theorem bal {w w' : World} (h : Below w.heap.size w w') (o : Obj) : Below w.heap.size w (w'.alloc o) := h.alloc h.size o
theorem bst {w w' : World} (h : Below w.heap.size w w') {b : Nat} (hb : w.heap.size ≤ b) (v : Value) : Below w.heap.size w (w'.setCell ⟨b, 0, none⟩ v) := h.setCell hb v
theorem Copies.below {ss : List Sg} {l : List Nd} {ss' : List Sg} {A3 A4 : Option Addr} {c3 c4 : Nat} {W W' : World} (h : Copies ss l ss' A3 A4 c3 c4 W) (hb : Below W.heap.size W W') : Copies ss l ss' A3 A4 c3 c4 W' := ⟨(h.sg.below hb).more hb.size, h.core, h.cap, rdn h.nd hb, h.room⟩
end Go.Proofs.Ytddbnggficlcfaa
