/- BASE: the reader of a string, and items in memory. -/
import Derived.Test.YtimblabaeclhpaaGreatPar
import Derived.Test.YtimblabaeclhpaaGreatApF
import Derived.Laws.CopyOwn
import Derived.Deep.MidRow
import Derived.Outline
import Derived.Deep.Cut
import Derived.Deep.DeepCutAuto
import Derived.Deep.CutBlock
namespace Go.Proofs.YtimblabaeclhpaaGreat
open Go.RowKit
theorem nwB {w : World} {o : Obj} {n : Nat} (hn : n = w.heap.size) : (w.alloc o).heap[n]? = some o := by subst hn; exact heap_alloc_new w o
theorem oldB {w : World} {o x : Obj} {k : Nat} (h : w.heap[k]? = some x) : (w.alloc o).heap[k]? = some x := (Below.heap_alloc _ _ _ (lt_of_block h)).trans h
/-- The reader: a string, and a place in it. -/
def Rdr (W : World) (rb : Nat) (s : ByteArray) (p : Nat) : Prop := W.heap[rb]? = some (.cells #[.iface 78 (.agg #[]), .string s, .int .i64 (p : Int)] 88 (0, 0))
structure RdrC (W : World) (rb : Nat) (s : ByteArray) (p : Nat) : Prop where
  c0 : W.cell? ⟨rb, 0, none⟩ = some (.iface 78 (.agg #[]))
  c1 : W.cell? ⟨rb, 1, none⟩ = some (.string s)
  c2 : W.cell? ⟨rb, 2, none⟩ = some (.int .i64 (p : Int))
  z2 : W.frozen? ⟨rb, 2, none⟩ = false
theorem Rdr.cells {W : World} {rb : Nat} {s : ByteArray} {p : Nat} (h : Rdr W rb s p) : RdrC W rb s p := by
  unfold Rdr at h
  constructor <;> simp [World.cell?, World.frozen?, h]
theorem Rdr.lt {W : World} {rb : Nat} {s : ByteArray} {p : Nat} (h : Rdr W rb s p) : rb < W.heap.size := lt_of_block h
theorem Rdr.keep {W W' : World} {rb : Nat} {s : ByteArray} {p : Nat} (h : Rdr W rb s p) (hb : Below W.heap.size W W') : Rdr W' rb s p := (hb.block _ h.lt).trans h
theorem Rdr.far {W : World} {rb b k : Nat} {s : ByteArray} {p : Nat} {v : Value} (h : Rdr W rb s p) (hne : b ≠ rb) : Rdr (W.setCell ⟨b, k, none⟩ v) rb s p := (Below.heap_setCell _ _ _ _ (Ne.symm hne)).trans h
theorem Rdr.set {W : World} {rb : Nat} {s : ByteArray} {p q : Nat} (h : Rdr W rb s p) : Rdr (W.setCell ⟨rb, 2, none⟩ (.int .i64 (q : Int))) rb s q := by
  unfold Rdr at h ⊢
  simp [World.setCell, h, Array.getElem?_modify]
theorem Rdr.set1 {W : World} {rb : Nat} {s : ByteArray} {p q : Nat} {v : Int} (h : Rdr W rb s p) (hv : v = (q : Int)) : Rdr (W.setCell ⟨rb, 2, none⟩ (.int .i64 v)) rb s q := by
  subst hv; exact h.set
/-- All that was there is as it was, but for the reader. -/
abbrev Kp (rb : Nat) (w w' : World) : Prop := w.grownBy w' (some rb)
theorem Kp.refl (rb : Nat) (w : World) : Kp rb w w := ⟨rfl, rfl, rfl, Nat.le_refl _, fun _ _ _ => rfl⟩
theorem Kp.trans {rb : Nat} {a b c : World} (h : Kp rb a b) (k : Kp rb b c) : Kp rb a c :=
  ⟨k.os.trans h.os, k.tape.trans h.tape, k.output.trans h.output, Nat.le_trans h.size k.size, fun i hi hn => (k.block i (Nat.lt_of_lt_of_le hi h.size) hn).trans (h.block i hi hn)⟩
theorem Kp.of_below {rb : Nat} {a b : World} (h : Below a.heap.size a b) : Kp rb a b := ⟨h.os, h.tape, h.output, h.size, fun k hk _ => h.block k hk⟩
theorem Kp.drew {rb : Nat} {a w : World} (h : Kp rb a w) : Kp rb a w.drew := ⟨h.os, h.tape, h.output, h.size, h.block⟩
theorem Kp.drewN {rb : Nat} {a w : World} (h : Kp rb a w) (n : Nat) : Kp rb a (w.drewN n) := ⟨h.os, h.tape, h.output, h.size, h.block⟩
theorem Kp.alloc {rb : Nat} {a w : World} (h : Kp rb a w) (o : Obj) : Kp rb a (w.alloc o) := h.trans (Kp.of_below ((Below.refl _ _).alloc (Nat.le_refl _) o))
theorem Kp.set {rb k : Nat} {a w : World} (h : Kp rb a w) (v : Value) : Kp rb a (w.setCell ⟨rb, k, none⟩ v) :=
  h.trans ⟨rfl, rfl, rfl, by simp, fun i _ hn => Below.heap_setCell _ _ _ _ (fun e => hn (by rw [e]))⟩
theorem Kp.setNew {rb b k : Nat} {a w : World} (h : Kp rb a w) (hb : a.heap.size ≤ b) (v : Value) : Kp rb a (w.setCell ⟨b, k, none⟩ v) :=
  ⟨h.os, h.tape, h.output, by simpa using h.size, fun i hi hn => (Below.heap_setCell _ _ _ _ (by simp; omega)).trans (h.block i hi hn)⟩
theorem Kp.grown {rb : Nat} {a w w' : World} {row : Option Nat} (h : Kp rb a w) (hg : w.grownBy w' row) (hr : ∀ k, row = some k → a.heap.size ≤ k) : Kp rb a w' :=
  ⟨hg.os.trans h.os, hg.tape.trans h.tape, hg.output.trans h.output, Nat.le_trans h.size hg.size, fun i hi hn => (hg.block i (Nat.lt_of_lt_of_le hi h.size) (fun e => by have := hr i e.symm; omega)).trans (h.block i hi hn)⟩
theorem Kp.blk {rb k : Nat} {w w' : World} (h : Kp rb w w') (hk : k < w.heap.size) (hn : k ≠ rb) : w'.heap[k]? = w.heap[k]? := h.block k hk (fun e => hn (by injection e))
theorem Kp.to_below {rb n : Nat} {w w' : World} (h : Kp rb w w') (h1 : n ≤ rb) (h2 : rb < w.heap.size) : Below n w w' := ⟨h.os, h.tape, h.output, h.size, fun k hk => h.blk (by omega) (by omega)⟩
/-- What a reading that goes on wrongly dies of. -/
def wrongP (p : Nat) : Ending := .panicked [{ v := .iface 85 (.agg #[.int .i64 (p : Int)]), recovered := false }]
/-- An item as a value. -/
structure Iv where
  nd : Nd
  code : ByteArray
  pos : Int
  ka : Option Addr
  kn : Nat
  kc : Nat
def ivC (v : Iv) : List Value := [.int .i64 v.nd.kind, .int .i64 v.nd.depth, .int .i64 v.nd.sign, .int .i64 v.nd.turn, .bool v.nd.mir, .int .i64 v.nd.state, .int .i64 v.nd.mn, .int .i64 v.nd.mx, .string v.code, .int .i64 v.pos, .slice v.ka v.kn v.kc]
def ivA (v : Iv) : Value := .agg #[.int .i64 v.nd.kind, .int .i64 v.nd.depth, .int .i64 v.nd.sign, .int .i64 v.nd.turn, .bool v.nd.mir, .int .i64 v.nd.state, .int .i64 v.nd.mn, .int .i64 v.nd.mx, .string v.code, .int .i64 v.pos, .slice v.ka v.kn v.kc]
def flatI (l : List Iv) : List Value := l.flatMap ivC
theorem flatI_len (l : List Iv) : (flatI l).length = l.length * 11 := by
  induction l with
  | nil => rfl
  | cons x l ih => unfold flatI at ih ⊢; rw [List.flatMap_cons, List.length_append, ih, List.length_cons]; unfold ivC; simp; omega
theorem flatI_app (a b : List Iv) : flatI (a ++ b) = flatI a ++ flatI b := by unfold flatI; rw [List.flatMap_append]
theorem flatI_one (v : Iv) : flatI [v] = ivC v := by unfold flatI; simp
theorem flatI_at : ∀ (L : List Iv) (k j : Nat) (hk : k < L.length), j < 11 → (flatI L)[k * 11 + j]? = (ivC L[k])[j]?
  | g :: L, 0, j, _, hj => by
    unfold flatI
    rw [List.flatMap_cons, List.getElem?_append_left (by unfold ivC; simp; omega)]
    simp
  | g :: L, k + 1, j, hk, hj => by
    have ih := flatI_at L k j (by simpa using hk) hj
    unfold flatI at ih ⊢
    rw [List.flatMap_cons, List.getElem?_append_right (by unfold ivC; simp; omega), List.getElem_cons_succ, ← ih]
    congr 1
    unfold ivC
    simp
    omega
/-- A row of items, all of it in blocks that Q lets by. -/
def KidR (Q : Nat → Prop) (w : World) (v : Value) (vs : List Iv) : Prop := w.ownsRow 0 93 11 v vs.length (flatI vs) ∧ ∀ g, v.ownBlock = some g → Q g
mutual
/-- The value v is the item x (its sign is a number from 0 to below N), its kids lie in blocks that Q lets by. -/
def ItV (N : Int) (Q : Nat → Prop) (w : World) (v : Iv) : Itm → Prop
  | .mk nd code pos kids => v.nd = { nd with sign := v.nd.sign } ∧ (0 ≤ v.nd.sign ∧ v.nd.sign < N) ∧ v.code = code ∧ v.pos = (pos : Int) ∧ v.kn = kids.length ∧ ∃ vs, KidR Q w (.slice v.ka v.kn v.kc) vs ∧ ItL N Q w vs kids
def ItL (N : Int) (Q : Nat → Prop) (w : World) (vs : List Iv) : List Itm → Prop
  | [] => vs = []
  | x :: ks => ∃ v us, vs = v :: us ∧ ItV N Q w v x ∧ ItL N Q w us ks
end
theorem ItL.len {N : Int} {Q : Nat → Prop} {w : World} : ∀ {vs : List Iv} {ks : List Itm}, ItL N Q w vs ks → vs.length = ks.length
  | _, [], h => by rw [ItL] at h; rw [h]; rfl
  | _, x :: ks, h => by
    rw [ItL] at h
    obtain ⟨v, us, rfl, _, h2⟩ := h
    simp [ItL.len h2]
theorem ItL.at {N : Int} {Q : Nat → Prop} {w : World} : ∀ {vs : List Iv} {ks : List Itm} (_ : ItL N Q w vs ks) (i : Nat) (h1 : i < vs.length) (h2 : i < ks.length), ItV N Q w vs[i] ks[i]
  | _, [], _, i, _, h2 => by simp at h2
  | _, x :: ks, h, i, h1, h2 => by
    rw [ItL] at h
    obtain ⟨v, us, rfl, h3, h4⟩ := h
    cases i with
    | zero => exact h3
    | succ i => exact ItL.at h4 i (by simpa using h1) (by simpa using h2)
theorem ItL.snoc {N : Int} {Q : Nat → Prop} {w : World} {v : Iv} {x : Itm} (hx : ItV N Q w v x) : ∀ {vs : List Iv} {ks : List Itm}, ItL N Q w vs ks → ItL N Q w (vs ++ [v]) (ks ++ [x])
  | _, [], h => by
    rw [ItL] at h
    subst h
    simp only [List.nil_append]
    rw [ItL]
    exact ⟨v, [], rfl, hx, by rw [ItL]⟩
  | _, y :: ks, h => by
    rw [ItL] at h
    obtain ⟨u, us, rfl, h3, h4⟩ := h
    simp only [List.cons_append]
    rw [ItL]
    exact ⟨u, us ++ [v], rfl, h3, ItL.snoc hx h4⟩
theorem KidR.keep {Q Q' : Nat → Prop} {w w' : World} {v : Value} {vs : List Iv} (h : KidR Q w v vs) (hq : ∀ b, Q b → Q' b) (hb : ∀ b, Q b → w'.heap[b]? = w.heap[b]?) : KidR Q' w' v vs := by
  obtain ⟨⟨h1, h2⟩, h3⟩ := h
  refine ⟨⟨h1, ?_⟩, fun g hg => hq g (h3 g hg)⟩
  rcases h2 with h2 | ⟨g, cap, cur, hv, hg, hh, r⟩
  · exact .inl h2
  · exact .inr ⟨g, cap, cur, hv, hg, by rw [hb g (h3 g (by rw [hv]; rfl))]; exact hh, r⟩
mutual
theorem ItV.keep {N N' : Int} {Q Q' : Nat → Prop} {w w' : World} (hN : N ≤ N') (hq : ∀ b, Q b → Q' b) (hb : ∀ b, Q b → w'.heap[b]? = w.heap[b]?) : ∀ {v : Iv} {x : Itm}, ItV N Q w v x → ItV N' Q' w' v x
  | v, .mk nd code pos kids, h => by
    rw [ItV] at h ⊢
    obtain ⟨h1, h2, h3, h4, h5, vs, h6, h7⟩ := h
    exact ⟨h1, ⟨h2.1, by omega⟩, h3, h4, h5, vs, h6.keep hq hb, ItL.keep hN hq hb h7⟩
theorem ItL.keep {N N' : Int} {Q Q' : Nat → Prop} {w w' : World} (hN : N ≤ N') (hq : ∀ b, Q b → Q' b) (hb : ∀ b, Q b → w'.heap[b]? = w.heap[b]?) : ∀ {vs : List Iv} {ks : List Itm}, ItL N Q w vs ks → ItL N' Q' w' vs ks
  | vs, [], h => by rw [ItL] at h ⊢; exact h
  | vs, x :: ks, h => by
    rw [ItL] at h ⊢
    obtain ⟨v, us, rfl, h3, h4⟩ := h
    exact ⟨v, us, rfl, ItV.keep hN hq hb h3, ItL.keep hN hq hb h4⟩
end
end Go.Proofs.YtimblabaeclhpaaGreat

/- BASE: an item in a block of its own. -/
namespace Go.Proofs.YtimblabaeclhpaaGreat
open Go.RowKit
/-- An item in a block of its own. -/
def ItB (W : World) (b : Nat) (v : Iv) : Prop := W.heap[b]? = some (.cells #[.int .i64 v.nd.kind, .int .i64 v.nd.depth, .int .i64 v.nd.sign, .int .i64 v.nd.turn, .bool v.nd.mir, .int .i64 v.nd.state, .int .i64 v.nd.mn, .int .i64 v.nd.mx, .string v.code, .int .i64 v.pos, .slice v.ka v.kn v.kc] 93 (0, 0))
structure ItC (W : World) (b : Nat) (v : Iv) : Prop where
  k0 : W.cell? ⟨b, 0, none⟩ = some (.int .i64 v.nd.kind)
  k1 : W.cell? ⟨b, 1, none⟩ = some (.int .i64 v.nd.depth)
  k2 : W.cell? ⟨b, 2, none⟩ = some (.int .i64 v.nd.sign)
  k3 : W.cell? ⟨b, 3, none⟩ = some (.int .i64 v.nd.turn)
  k4 : W.cell? ⟨b, 4, none⟩ = some (.bool v.nd.mir)
  k5 : W.cell? ⟨b, 5, none⟩ = some (.int .i64 v.nd.state)
  k6 : W.cell? ⟨b, 6, none⟩ = some (.int .i64 v.nd.mn)
  k7 : W.cell? ⟨b, 7, none⟩ = some (.int .i64 v.nd.mx)
  k8 : W.cell? ⟨b, 8, none⟩ = some (.string v.code)
  k9 : W.cell? ⟨b, 9, none⟩ = some (.int .i64 v.pos)
  k10 : W.cell? ⟨b, 10, none⟩ = some (.slice v.ka v.kn v.kc)
  z0 : W.frozen? ⟨b, 0, none⟩ = false
  z1 : W.frozen? ⟨b, 1, none⟩ = false
  z2 : W.frozen? ⟨b, 2, none⟩ = false
  z3 : W.frozen? ⟨b, 3, none⟩ = false
  z4 : W.frozen? ⟨b, 4, none⟩ = false
  z5 : W.frozen? ⟨b, 5, none⟩ = false
  z6 : W.frozen? ⟨b, 6, none⟩ = false
  z7 : W.frozen? ⟨b, 7, none⟩ = false
  z8 : W.frozen? ⟨b, 8, none⟩ = false
  z9 : W.frozen? ⟨b, 9, none⟩ = false
  z10 : W.frozen? ⟨b, 10, none⟩ = false
theorem ItB.cells {W : World} {b : Nat} {v : Iv} (h : ItB W b v) : ItC W b v := by
  unfold ItB at h
  constructor <;> simp [World.cell?, World.frozen?, h]
theorem ItB.lt {W : World} {b : Nat} {v : Iv} (h : ItB W b v) : b < W.heap.size := lt_of_block h
theorem ItB.kp {W W' : World} {rb b : Nat} {v : Iv} (h : ItB W b v) (hk : Kp rb W W') (hn : b ≠ rb) : ItB W' b v := (hk.blk h.lt hn).trans h
theorem ItB.grown {W W' : World} {row : Option Nat} {b : Nat} {v : Iv} (h : ItB W b v) (hk : W.grownBy W' row) (hn : row ≠ some b) : ItB W' b v := (hk.block b h.lt (Ne.symm hn)).trans h
theorem ItB.below {W W' : World} {b : Nat} {v : Iv} (h : ItB W b v) (hb : Below W.heap.size W W') : ItB W' b v := (hb.block b h.lt).trans h
theorem ItB.drewN {W : World} {b n : Nat} {v : Iv} (h : ItB W b v) : ItB (W.drewN n) b v := h
theorem ItB.alloc {W : World} {b : Nat} {v : Iv} (h : ItB W b v) (o : Obj) : ItB (W.alloc o) b v := (Below.heap_alloc W o b h.lt).trans h
theorem ItB.far {W : World} {b b' k : Nat} {g : Iv} {v : Value} (h : ItB W b g) (hne : b' ≠ b) : ItB (W.setCell ⟨b', k, none⟩ v) b g := (Below.heap_setCell _ _ _ _ (Ne.symm hne)).trans h
theorem ItB.set_turn {W : World} {b : Nat} {v : Iv} {u : Int} (h : ItB W b v) : ItB (W.setCell ⟨b, 3, none⟩ (.int .i64 u)) b { v with nd := { v.nd with turn := u } } := by
  unfold ItB at h ⊢
  simp [World.setCell, h, Array.getElem?_modify]
theorem ItB.set_mir {W : World} {b : Nat} {v : Iv} {u : Bool} (h : ItB W b v) : ItB (W.setCell ⟨b, 4, none⟩ (.bool u)) b { v with nd := { v.nd with mir := u } } := by
  unfold ItB at h ⊢
  simp [World.setCell, h, Array.getElem?_modify]
theorem ItB.set_state {W : World} {b : Nat} {v : Iv} {u : Int} (h : ItB W b v) : ItB (W.setCell ⟨b, 5, none⟩ (.int .i64 u)) b { v with nd := { v.nd with state := u } } := by
  unfold ItB at h ⊢
  simp [World.setCell, h, Array.getElem?_modify]
theorem ItB.set_mn {W : World} {b : Nat} {v : Iv} {u : Int} (h : ItB W b v) : ItB (W.setCell ⟨b, 6, none⟩ (.int .i64 u)) b { v with nd := { v.nd with mn := u } } := by
  unfold ItB at h ⊢
  simp [World.setCell, h, Array.getElem?_modify]
theorem ItB.set_mx {W : World} {b : Nat} {v : Iv} {u : Int} (h : ItB W b v) : ItB (W.setCell ⟨b, 7, none⟩ (.int .i64 u)) b { v with nd := { v.nd with mx := u } } := by
  unfold ItB at h ⊢
  simp [World.setCell, h, Array.getElem?_modify]
theorem ItB.set_code {W : World} {b : Nat} {v : Iv} {u : ByteArray} (h : ItB W b v) : ItB (W.setCell ⟨b, 8, none⟩ (.string u)) b { v with code := u } := by
  unfold ItB at h ⊢
  simp [World.setCell, h, Array.getElem?_modify]
theorem ItB.set_kids {W : World} {b : Nat} {v : Iv} {A : Option Addr} {n c : Nat} (h : ItB W b v) : ItB (W.setCell ⟨b, 10, none⟩ (.slice A n c)) b { v with ka := A, kn := n, kc := c } := by
  unfold ItB at h ⊢
  simp [World.setCell, h, Array.getElem?_modify]
theorem wp_store_it {ops : Array Oper} {rest : List Oper} {o : Oper} {a : Act} {W : World} {Q : Exit → Act → World → Prop} (hgd : o.guard = none) (x y : Operand) (ho : o.op = .store 93 x y) (b : Nat) (u v : Iv) (hx : a.eval x = .pointer (some ⟨b, 0, none⟩)) (hy : a.eval y = ivA v) (hv : ItB W b u)
    (h : ∀ W' : World, ItB W' b v → W.grownBy W' (some b) → wpList Tryz.prog ops Q rest (a.put o.dst undef) W') : wpList Tryz.prog ops Q (o :: rest) a W :=
  wpList_plain hgd fun _ hK => wp_store_row _ x y ho b _ hx hy _ _ hv (by kernel_rfl) rfl (by simp [Value.oneCell']) (hK _ _ (h _ (setRow_heap W b _ _ _ _ hv) ⟨rfl, rfl, rfl, by simp [World.setRow], fun k _ hk => setRow_other W b k _ (fun e => hk (by rw [e]))⟩))
theorem Tryz.underItem : Tryz.prog.underlying 93 = some (Tryz.prog.underlying 93).get! := by kernel_rfl
theorem Tryz.underItems : Tryz.prog.underlying 59 = some (.slice 93) := by kernel_rfl
theorem Tryz.infoItem : (Tryz.prog.info? 93).map (fun i => (i.zero, i.size, i.bytes)) = some (some (.agg #[.int .i64 0, .int .i64 0, .int .i64 0, .int .i64 0, .bool false, .int .i64 0, .int .i64 0, .int .i64 0, .string ByteArray.empty, .int .i64 0, .slice none 0 0]), 11, 112) := by kernel_rfl
theorem ItB.range {W : World} {b : Nat} {v : Iv} (h : ItB W b v) : W.rangeAt b 0 (ivC v) := fun j u hj => by
  have e : W.cell? ⟨b, 0 + j, none⟩ = (ivC v)[j]? := by
    unfold ItB at h
    simp [World.cell?, h, ivC]
  rw [e]
  exact hj
theorem wp_load_it {ops : Array Oper} {rest : List Oper} {o : Oper} {a : Act} {W : World} {Q : Exit → Act → World → Prop} (hgd : o.guard = none) (x : Operand) (ho : o.op = .load 93 x) (b of : Nat) (v : Iv) (hx : a.eval x = .pointer (some ⟨b, of, none⟩)) (hv : W.rangeAt b of (ivC v))
    (h : wpList Tryz.prog ops Q rest (a.put o.dst (ivA v)) W) : wpList Tryz.prog ops Q (o :: rest) a W :=
  wpList_load_mid hgd 93 x ho b of hx _ _ hv Tryz.underItem (by kernel_rfl) (by kernel_rfl) h
end Go.Proofs.YtimblabaeclhpaaGreat

/- PLAIN LAW: items that are kept, and rows of items that grow, while other memory is written. -/
namespace Go.Proofs.YtimblabaeclhpaaGreat
open Go.RowKit
/-- The item lies in blocks from n0 on, and in none of the list. -/
def ItX (N : Int) (n0 : Nat) (Lx : List Nat) (W : World) (v : Iv) (x : Itm) : Prop := ItV N (fun b => n0 ≤ b ∧ b < W.heap.size ∧ b ∉ Lx) W v x
theorem ItX.grown {N : Int} {n0 : Nat} {Lx : List Nat} {W W' : World} {v : Iv} {x : Itm} {row : Option Nat} (h : ItX N n0 Lx W v x) (hk : W.grownBy W' row) (hr : ∀ r, row = some r → r < n0 ∨ r ∈ Lx ∨ W.heap.size ≤ r) : ItX N n0 Lx W' v x :=
  ItV.keep (Int.le_refl _) (fun b hb => ⟨hb.1, Nat.lt_of_lt_of_le hb.2.1 hk.size, hb.2.2⟩) (fun b hb => hk.block b hb.2.1 fun e => by
    rcases hr b e.symm with h1 | h1 | h1
    · have := hb.1; omega
    · exact hb.2.2 h1
    · have := hb.2.1; omega) h
theorem ItX.kp {N : Int} {n0 rb : Nat} {Lx : List Nat} {W W' : World} {v : Iv} {x : Itm} (h : ItX N n0 Lx W v x) (hk : Kp rb W W') (hr : rb < n0) : ItX N n0 Lx W' v x :=
  h.grown hk fun r e => by injection e with e; subst e; exact .inl hr
theorem ItX.more {N : Int} {n0 n1 : Nat} {Lx : List Nat} {W : World} {v : Iv} {x : Itm} (h : ItX N n1 [] W v x) (hn : n0 ≤ n1) (hl : ∀ b ∈ Lx, b < n1) : ItX N n0 Lx W v x :=
  ItV.keep (Int.le_refl _) (fun b hb => ⟨Nat.le_trans hn hb.1, hb.2.1, fun hx => by have := hl b hx; have := hb.1; omega⟩) (fun _ _ => rfl) h
theorem ItX.less {N : Int} {n0 : Nat} {Lx : List Nat} {W : World} {v : Iv} {x : Itm} (h : ItX N n0 Lx W v x) : ItX N n0 [] W v x :=
  ItV.keep (Int.le_refl _) (fun b hb => ⟨hb.1, hb.2.1, by simp⟩) (fun _ _ => rfl) h
/-- A leaf. -/
theorem ItX.leaf {N : Int} {n0 : Nat} {Lx : List Nat} {W : World} {nd : Nd} {code : ByteArray} {pos : Nat} (hN : 0 < N) (hs : nd.sign = 0) : ItX N n0 Lx W ⟨nd, code, pos, none, 0, 0⟩ (.mk nd code pos []) := by
  unfold ItX
  rw [ItV]
  refine ⟨rfl, ⟨by simp [hs], by simpa [hs] using hN⟩, rfl, rfl, rfl, [], ⟨World.ownsRow_nil _ _ _ _, fun g e => by cases e⟩, by rw [ItL]⟩
/-- A row of items that grows: they lie in blocks from n0 on, in none of the list, and not in the row's own. -/
def Ks (N : Int) (n0 : Nat) (Lx : List Nat) (W : World) (A : Option Addr) (m c : Nat) (ks : List Itm) : Prop :=
  ∃ vs : List Iv, vs.length = m ∧ ks.length = m ∧ W.ownsRow n0 93 11 (.slice A m c) m (flatI vs) ∧ (∀ g, (Value.slice A m c).ownBlock = some g → g ∉ Lx) ∧
    ItL N (fun b => n0 ≤ b ∧ b < W.heap.size ∧ b ∉ Lx ∧ (Value.slice A m c).ownBlock ≠ some b) W vs ks
theorem Ks.grown {N : Int} {n0 : Nat} {Lx : List Nat} {W W' : World} {A : Option Addr} {m c : Nat} {ks : List Itm} {row : Option Nat} (h : Ks N n0 Lx W A m c ks) (hk : W.grownBy W' row) (hr : ∀ r, row = some r → r < n0 ∨ r ∈ Lx ∨ W.heap.size ≤ r) : Ks N n0 Lx W' A m c ks := by
  obtain ⟨vs, h1, h2, h3, h4, h5⟩ := h
  have hne : ∀ b, n0 ≤ b → b < W.heap.size → b ∉ Lx → some b ≠ row := fun b hb hs hx e => by
    rcases hr b e.symm with q | q | q
    · omega
    · exact hx q
    · omega
  refine ⟨vs, h1, h2, h3.kept hk ?_, h4, ItL.keep (Int.le_refl _) (fun b hb => ⟨hb.1, Nat.lt_of_lt_of_le hb.2.1 hk.size, hb.2.2⟩) (fun b hb => hk.block b hb.2.1 (hne b hb.1 hb.2.1 hb.2.2.1)) h5⟩
  cases e : (Value.slice A m c).ownBlock with
  | none => exact .inl rfl
  | some g =>
    have hg := h3.lt g e
    exact .inr (hne g hg.1 hg.2 (h4 g e))
theorem Ks.kp {N : Int} {n0 rb : Nat} {Lx : List Nat} {W W' : World} {A : Option Addr} {m c : Nat} {ks : List Itm} (h : Ks N n0 Lx W A m c ks) (hk : Kp rb W W') (hr : rb < n0) : Ks N n0 Lx W' A m c ks :=
  h.grown hk fun r e => by injection e with e; subst e; exact .inl hr
/-- A new block, which is then one of the list. -/
theorem Ks.add {N : Int} {n0 : Nat} {Lx : List Nat} {W : World} {A : Option Addr} {m c b : Nat} {ks : List Itm} (h : Ks N n0 Lx W A m c ks) (hb : W.heap.size ≤ b) (o : Obj) : Ks N n0 (b :: Lx) (W.alloc o) A m c ks := by
  obtain ⟨vs, h1, h2, h3, h4, h5⟩ := h
  refine ⟨vs, h1, h2, h3.alloc o, fun g e => ?_, ItL.keep (Int.le_refl _) (fun k hk => ⟨hk.1, by have := hk.2.1; simp; omega, ?_, hk.2.2.2⟩) (fun k hk => Below.heap_alloc W o k hk.2.1) h5⟩
  · have := (h3.lt g e).2
    simp only [List.mem_cons, not_or]
    exact ⟨by omega, h4 g e⟩
  · have := hk.2.1
    simp only [List.mem_cons, not_or]
    exact ⟨by omega, hk.2.2.1⟩
/-- A row of one item, just made. -/
theorem Ks.start {N : Int} {n0 g : Nat} {Lx : List Nat} {W : World} {v : Iv} {x : Itm} (h : ItX N n0 Lx W v x) (hn : n0 ≤ W.heap.size) (hg : g = W.heap.size) (hl : ∀ b ∈ Lx, b < W.heap.size) : Ks N n0 Lx (W.alloc (.cells (ivC v).toArray 93)) (some ⟨g, 0, none⟩) 1 1 [x] := by
  subst hg
  refine ⟨[v], rfl, rfl, ?_, fun g e => ?_, ?_⟩
  · have := own_lit W (B := n0) 93 (ivC v).toArray (n := 1) (size := 11) hn (by simp [ivC]) (by decide)
    rw [flatI_one]
    simpa using this
  · injection e with e
    subst e
    exact fun hx => by have := hl _ hx; simp at this
  · rw [ItL]
    refine ⟨v, [], rfl, ItV.keep (Int.le_refl _) (fun b hb => ⟨hb.1, by have := hb.2.1; simp; omega, hb.2.2, fun e => ?_⟩) (fun b hb => Below.heap_alloc W _ b hb.2.1) h, by rw [ItL]⟩
    injection e with e
    have := hb.2.1
    simp only [] at e
    omega
/-- A row of two items, just made. -/
theorem Ks.start2 {N : Int} {n0 g : Nat} {Lx : List Nat} {W : World} {v u : Iv} {x y : Itm} (h : ItX N n0 Lx W v x) (hy : ItX N n0 Lx W u y) (hn : n0 ≤ W.heap.size) (hg : g = W.heap.size) (hl : ∀ b ∈ Lx, b < W.heap.size) : Ks N n0 Lx (W.alloc (.cells (ivC v ++ ivC u).toArray 93)) (some ⟨g, 0, none⟩) 2 2 [x, y] := by
  subst hg
  have hq : ∀ b, (n0 ≤ b ∧ b < W.heap.size ∧ b ∉ Lx) → n0 ≤ b ∧ b < (W.alloc (.cells (ivC v ++ ivC u).toArray 93)).heap.size ∧ b ∉ Lx ∧ (Value.slice (some ⟨W.heap.size, 0, none⟩) 2 2).ownBlock ≠ some b := fun b hb => ⟨hb.1, by have := hb.2.1; simp; omega, hb.2.2, fun e => by
    injection e with e
    have := hb.2.1
    simp only [] at e
    omega⟩
  refine ⟨[v, u], rfl, rfl, ?_, fun g e => ?_, ?_⟩
  · have := own_lit W (B := n0) 93 (ivC v ++ ivC u).toArray (n := 2) (size := 11) hn (by simp [ivC]) (by decide)
    rw [show [v, u] = [v] ++ [u] from rfl, flatI_app, flatI_one, flatI_one]
    simpa using this
  · injection e with e
    subst e
    exact fun hx => by have := hl _ hx; simp at this
  · rw [ItL]
    refine ⟨v, [u], rfl, ItV.keep (Int.le_refl _) hq (fun b hb => Below.heap_alloc W _ b hb.2.1) h, ?_⟩
    rw [ItL]
    exact ⟨u, [], rfl, ItV.keep (Int.le_refl _) hq (fun b hb => Below.heap_alloc W _ b hb.2.1) hy, by rw [ItL]⟩
/-- One more item. -/
theorem Ks.step {N : Int} {n0 n1 : Nat} {Lx : List Nat} {W w4 : World} {A A4 : Option Addr} {m c c4 : Nat} {ks : List Itm} {v : Iv} {x : Itm} {ys : List Value} {xs : List Value} (h : Ks N n0 Lx W A m c ks) (hx : ItX N n1 [] W v x)
    (hg1 : ∀ g, (Value.slice A m c).ownBlock = some g → g < n1) (hn : n0 ≤ n1) (hl : ∀ b ∈ Lx, b < n1) (hl2 : n1 ≤ W.heap.size) (hxs : ∀ vs : List Iv, W.ownsRow n0 93 11 (.slice A m c) m (flatI vs) → vs.length = m → flatI vs = xs) (hy : ys = ivC v)
    (ho : w4.ownsRow n0 93 11 (.slice A4 (m + 1) c4) (m + 1) (xs ++ ys)) (hg : W.grownBy w4 (Value.slice A m c).ownBlock) (hf : ∀ k, (Value.slice A4 (m + 1) c4).ownBlock = some k → (Value.slice A m c).ownBlock = some k ∨ W.heap.size ≤ k) : Ks N n0 Lx w4 A4 (m + 1) c4 (ks ++ [x]) := by
  obtain ⟨vs, h1, h2, h3, h4, h5⟩ := h
  subst hy
  have hne : ∀ b, b < W.heap.size → (Value.slice A m c).ownBlock ≠ some b → (Value.slice A4 (m + 1) c4).ownBlock ≠ some b := fun b hb hx e => by
    rcases hf b e with q | q
    · exact hx q
    · omega
  refine ⟨vs ++ [v], by simp [h1], by simp [h2], by rw [flatI_app, flatI_one, hxs vs h3 h1]; exact ho, fun g e => ?_, ?_⟩
  · rcases hf g e with q | q
    · exact h4 g q
    · exact fun hx => by have := hl g hx; omega
  · refine ItL.snoc (ItV.keep (Int.le_refl _) (fun b hb => ?_) (fun b hb => ?_) hx) (ItL.keep (Int.le_refl _) (fun b hb => ⟨hb.1, Nat.lt_of_lt_of_le hb.2.1 hg.size, hb.2.2.1, hne b hb.2.1 hb.2.2.2⟩) (fun b hb => hg.block b hb.2.1 (Ne.symm hb.2.2.2)) h5)
    · have h6 : (Value.slice A m c).ownBlock ≠ some b := fun e => by have := hg1 b e; have := hb.1; omega
      exact ⟨Nat.le_trans hn hb.1, Nat.lt_of_lt_of_le hb.2.1 hg.size, fun hx => by have := hl b hx; have := hb.1; omega, hne b hb.2.1 h6⟩
    · have h6 : (Value.slice A m c).ownBlock ≠ some b := fun e => by have := hg1 b e; have := hb.1; omega
      exact hg.block b hb.2.1 (Ne.symm h6)
/-- A node over the row. -/
theorem Ks.node {N : Int} {n0 : Nat} {Lx : List Nat} {W : World} {A : Option Addr} {m c : Nat} {ks : List Itm} {k : Int} (h : Ks N n0 Lx W A m c ks) (hN : 0 < N) : ItX N n0 Lx W ⟨kN k, ByteArray.empty, 0, A, m, c⟩ (kI k ks) := by
  obtain ⟨vs, h1, h2, h3, h4, h5⟩ := h
  unfold ItX kI
  rw [ItV]
  refine ⟨rfl, ⟨Int.le_refl _, hN⟩, rfl, rfl, h2.symm, vs, ⟨?_, fun g e => ⟨(h3.lt g e).1, (h3.lt g e).2, h4 g e⟩⟩, ItL.keep (Int.le_refl _) (fun b hb => ⟨hb.1, hb.2.1, hb.2.2.1⟩) (fun _ _ => rfl) h5⟩
  rw [h1]
  exact own_base h3 (Nat.zero_le _)
/-- The first item of a row. -/
theorem Ks.first {N : Int} {n0 : Nat} {Lx : List Nat} {W : World} {A : Option Addr} {m c : Nat} {x : Itm} {ks : List Itm} (h : Ks N n0 Lx W A m c (x :: ks)) : ∃ b v, A = some ⟨b, 0, none⟩ ∧ b < W.heap.size ∧ W.rangeAt b 0 (ivC v) ∧ ItX N n0 Lx W v x := by
  obtain ⟨vs, h1, h2, h3, h4, h5⟩ := h
  rw [ItL] at h5
  obtain ⟨v, us, rfl, h6, h7⟩ := h5
  obtain ⟨g, cap, hv, hb, hlt⟩ := h3.form (by rw [← h2]; simp)
  injection hv with e1 e2 e3
  subst e1
  refine ⟨g, v, rfl, hlt, fun j u hj => ?_, ItV.keep (Int.le_refl _) (fun b hb => ⟨hb.1, hb.2.1, hb.2.2.1⟩) (fun _ _ => rfl) h6⟩
  have hj11 : j < 11 := by
    have := (List.getElem?_eq_some_iff.1 hj).1
    unfold ivC at this
    simpa using this
  have := h3.cells (g := g) rfl j u (by
    have := flatI_at (v :: us) 0 j (by simp) hj11
    simp only [Nat.zero_mul, Nat.zero_add] at this
    rw [this]
    simpa using hj)
  rwa [Addr.add_lit] at this
theorem Ks.row {N : Int} {n0 : Nat} {Lx : List Nat} {W : World} {A : Option Addr} {m c : Nat} {ks : List Itm} (h : Ks N n0 Lx W A m c ks) : ∃ xs, W.ownsRow n0 93 11 (.slice A m c) m xs ∧ ∀ vs : List Iv, W.ownsRow n0 93 11 (.slice A m c) m (flatI vs) → vs.length = m → flatI vs = xs := by
  obtain ⟨vs, h1, h2, h3, h4, h5⟩ := h
  refine ⟨flatI vs, h3, fun us hu hul => ?_⟩
  rcases h3.2 with ⟨hv, hm⟩ | ⟨g, cap, cur, hv, hb, hh, h6, h7, h8, h9⟩
  · subst hm
    rw [List.length_eq_zero_iff.1 h1, List.length_eq_zero_iff.1 hul]
  · rcases hu.2 with ⟨hv', hm'⟩ | ⟨g', cap', cur', hv', hb', hh', h6', h7', h8', h9'⟩
    · rw [hv'] at hv; cases hv
    · rw [hv] at hv'
      injection hv' with q1 q2 q3
      injection q1 with q1
      injection q1 with q1
      subst q1
      rw [hh] at hh'
      injection hh' with hh'
      injection hh' with hh'
      rw [← h9, ← h9', hh']
end Go.Proofs.YtimblabaeclhpaaGreat

/- PLAIN LAW: items in memory whose sign is written. -/
namespace Go.Proofs.YtimblabaeclhpaaGreat
open Go.RowKit
def sgnI (v : Iv) (s : Int) : Iv := { v with nd := { v.nd with sign := s } }
theorem flatI_set : ∀ (us : List Iv) (i : Nat) (s : Int) (hi : i < us.length), (flatI us).set (i * 11 + 2) (.int .i64 s) = flatI (us.set i (sgnI us[i] s))
  | v :: us, 0, s, _ => by
    unfold flatI
    simp [List.flatMap_cons, ivC, sgnI]
  | v :: us, i + 1, s, hi => by
    have ih := flatI_set us i s (by simpa using hi)
    unfold flatI at ih ⊢
    rw [List.flatMap_cons, List.set_cons_succ, List.flatMap_cons, List.getElem_cons_succ, ← ih]
    have e : (i + 1) * 11 + 2 = (ivC v).length + (i * 11 + 2) := by unfold ivC; simp; omega
    rw [e, List.set_append_right _ _ (by omega)]
    congr 2
    omega
theorem KidR.sgn {Q : Nat → Prop} {w : World} {v : Value} {us : List Iv} {g i : Nat} {s : Int} (h : KidR Q w v us) :
    ∃ us', KidR Q (w.setCell ⟨g, i * 11 + 2, none⟩ (.int .i64 s)) v us' ∧ (us' = us ∨ ∃ hi : i < us.length, us' = us.set i (sgnI us[i] s)) := by
  obtain ⟨h1, h2⟩ := h
  by_cases hg : v.ownBlock = some g
  · obtain ⟨A, c, rfl⟩ := own_slice h1
    have hA : A = some ⟨g, 0, none⟩ := by
      rcases h1.2 with ⟨h3, _⟩ | ⟨g9, cap, cur, h3, _⟩
      · rw [h3] at hg; cases hg
      · injection h3 with e1 _ _
        subst e1
        injection hg with hg
        simp only [] at hg
        rw [hg]
    subst hA
    have h3 := (World.ownsRow.stored h1 (i * 11 + 2) (.int .i64 s)).1
    by_cases hi : i < us.length
    · refine ⟨us.set i (sgnI us[i] s), ⟨?_, h2⟩, .inr ⟨hi, rfl⟩⟩
      rw [List.length_set, ← flatI_set us i s hi]
      exact h3
    · refine ⟨us, ⟨?_, h2⟩, .inl rfl⟩
      rw [List.set_eq_of_length_le (by rw [flatI_len]; omega)] at h3
      exact h3
  · exact ⟨us, ⟨ownsRow_setCell_other h1 (a := ⟨g, i * 11 + 2, none⟩) hg _, h2⟩, .inl rfl⟩
theorem ItV.sgnI {N : Int} {Q : Nat → Prop} {w : World} {v : Iv} {x : Itm} {s : Int} (h : ItV N Q w v x) (hs : 0 ≤ s ∧ s < N) : ItV N Q w (sgnI v s) x := by
  obtain ⟨nd, code, pos, kids⟩ := x
  rw [ItV] at h ⊢
  obtain ⟨h1, _, h3⟩ := h
  refine ⟨?_, hs, h3⟩
  unfold Go.Proofs.YtimblabaeclhpaaGreat.sgnI
  simp only []
  rw [h1]
theorem ItL.setI {N : Int} {Q : Nat → Prop} {w : World} {s : Int} (hs : 0 ≤ s ∧ s < N) : ∀ {vs : List Iv} {ks : List Itm} (i : Nat) (hi : i < vs.length), ItL N Q w vs ks → ItL N Q w (vs.set i (Go.Proofs.YtimblabaeclhpaaGreat.sgnI vs[i] s)) ks
  | _, [], i, hi, h => by rw [ItL] at h; subst h; simp at hi
  | _, x :: ks, i, hi, h => by
    rw [ItL] at h
    obtain ⟨v, us, rfl, h3, h4⟩ := h
    cases i with
    | zero =>
      rw [ItL]
      exact ⟨Go.Proofs.YtimblabaeclhpaaGreat.sgnI v s, us, rfl, h3.sgnI hs, h4⟩
    | succ i =>
      rw [ItL]
      exact ⟨v, us.set i (Go.Proofs.YtimblabaeclhpaaGreat.sgnI (us[i]'(by simpa using hi)) s), rfl, h3, ItL.setI hs i (by simpa using hi) h4⟩
mutual
/-- A sign is written: the items are as they were, but for signs. -/
theorem ItV.store {N : Int} {Q : Nat → Prop} {w : World} {g i : Nat} {s : Int} (hs : 0 ≤ s ∧ s < N) : ∀ {v : Iv} {x : Itm}, ItV N Q w v x → ItV N Q (w.setCell ⟨g, i * 11 + 2, none⟩ (.int .i64 s)) v x
  | v, .mk nd code pos kids, h => by
    rw [ItV] at h ⊢
    obtain ⟨h1, h2, h3, h4, h5, us, h6, h7⟩ := h
    have h8 := ItL.store (g := g) (i := i) hs h7
    obtain ⟨us', h9, h10⟩ := h6.sgn (g := g) (i := i) (s := s)
    refine ⟨h1, h2, h3, h4, h5, us', h9, ?_⟩
    rcases h10 with rfl | ⟨hi, rfl⟩
    · exact h8
    · exact ItL.setI hs i hi h8
theorem ItL.store {N : Int} {Q : Nat → Prop} {w : World} {g i : Nat} {s : Int} (hs : 0 ≤ s ∧ s < N) : ∀ {vs : List Iv} {ks : List Itm}, ItL N Q w vs ks → ItL N Q (w.setCell ⟨g, i * 11 + 2, none⟩ (.int .i64 s)) vs ks
  | vs, [], h => by rw [ItL] at h ⊢; exact h
  | vs, x :: ks, h => by
    rw [ItL] at h ⊢
    obtain ⟨v, us, rfl, h3, h4⟩ := h
    exact ⟨v, us, rfl, ItV.store hs h3, ItL.store hs h4⟩
end
/-- Items behind a slice. -/
def ItS (N : Int) (Q : Nat → Prop) (w : World) (v : Value) (ks : List Itm) : Prop := ∃ vs, KidR Q w v vs ∧ ItL N Q w vs ks
theorem ItS.store {N : Int} {Q : Nat → Prop} {w : World} {v : Value} {ks : List Itm} {g i : Nat} {s : Int} (hs : 0 ≤ s ∧ s < N) (h : ItS N Q w v ks) : ItS N Q (w.setCell ⟨g, i * 11 + 2, none⟩ (.int .i64 s)) v ks := by
  obtain ⟨us, h6, h7⟩ := h
  have h8 := ItL.store (g := g) (i := i) hs h7
  obtain ⟨us', h9, h10⟩ := h6.sgn (g := g) (i := i) (s := s)
  refine ⟨us', h9, ?_⟩
  rcases h10 with rfl | ⟨hi, rfl⟩
  · exact h8
  · exact ItL.setI hs i hi h8
end Go.Proofs.YtimblabaeclhpaaGreat
