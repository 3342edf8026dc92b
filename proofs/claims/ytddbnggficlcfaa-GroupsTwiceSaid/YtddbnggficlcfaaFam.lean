/- groups.family. -/
import Derived.Test.YtddbnggficlcfaaOwn
import Derived.Test.YtddbnggficlcfaaColl
namespace Go.Proofs.Ytddbnggficlcfaa
open Go.RowKit Go.Shelf
attribute [local go_sem] Oper.semAt_some
def famIs (l : List Nd) (i : Nat) (par : Int) : Prop :=
  if kd l i = 2 then 2 ≤ (kidsOf l (i : Int)).length ∧ (kidsOf l (i : Int)).length ≤ 6 ∧ cntK l (kidsOf l (i : Int)) 2 = 0 else
  if kd l i = 3 then 2 ≤ (kidsOf l (i : Int)).length ∧ (kidsOf l (i : Int)).length ≤ 6 ∧ cntK l (kidsOf l (i : Int)) 3 = 0 else
  if kd l i = 4 then (kidsOf l (i : Int)).length = 2 ∧ cntK l (kidsOf l (i : Int)) 1 = 2 else
  if kd l i = 5 then 1 ≤ (kidsOf l (i : Int)).length ∧ (kidsOf l (i : Int)).length ≤ 6 ∧ cntK l (kidsOf l (i : Int)) 2 = 0 ∧ dep l i = 0 ∧ (cntK l (kidsOf l (i : Int)) 7 = 0 ∨ (kidsOf l (i : Int)).length = 1) else
  if kd l i = 7 then 2 ≤ (kidsOf l (i : Int)).length ∧ (kidsOf l (i : Int)).length ≤ 6 ∧ cntK l (kidsOf l (i : Int)) 2 = 0 ∧ (dep l i = 0 ∨ par = 5) else True
theorem famP_iff {l : List Nd} {i : Nat} {par : Int} : famP l i (kidsOf l (i : Int)) par ↔ (kd l i = 5 ∨ cntK l (kidsOf l (i : Int)) 7 = 0) ∧ famIs l i par := by
  unfold famP famIs
  constructor
  · rintro ⟨p1, p2, p3, p4, p5, p6⟩
    refine ⟨p1, ?_⟩
    by_cases h2 : kd l i = 2
    · rw [if_pos h2]; exact p2 h2
    rw [if_neg h2]
    by_cases h3 : kd l i = 3
    · rw [if_pos h3]; exact p3 h3
    rw [if_neg h3]
    by_cases h4 : kd l i = 4
    · rw [if_pos h4]; exact p4 h4
    rw [if_neg h4]
    by_cases h5 : kd l i = 5
    · rw [if_pos h5]; exact p5 h5
    rw [if_neg h5]
    by_cases h7 : kd l i = 7
    · rw [if_pos h7]; exact p6 h7
    rw [if_neg h7]
    trivial
  · rintro ⟨p1, p2⟩
    refine ⟨p1, fun h => ?_, fun h => ?_, fun h => ?_, fun h => ?_, fun h => ?_⟩
    · rw [if_pos h] at p2; exact p2
    · rw [if_neg (by omega), if_pos h] at p2; exact p2
    · rw [if_neg (by omega), if_neg (by omega), if_pos h] at p2; exact p2
    · rw [if_neg (by omega), if_neg (by omega), if_neg (by omega), if_pos h] at p2; exact p2
    · rw [if_neg (by omega), if_neg (by omega), if_neg (by omega), if_neg (by omega), if_pos h] at p2; exact p2
theorem cntK_s (l : List Nd) (pre : List Nat) (x : Nat) (k : Int) : cntK l (pre ++ [x]) k = cntK l pre k + if kd l x = k then 1 else 0 := by
  unfold cntK
  rw [List.filter_append, List.length_append]
  by_cases h : kd l x = k <;> simp [h]
theorem cntK_le (l : List Nd) (pre : List Nat) (k : Int) : cntK l pre k ≤ pre.length := List.length_filter_le _ _
/-- What family's loop keeps: its boxes and its five counts. -/
structure FM (A : Option Addr) (n c i : Nat) (nd : Nd) (w : World) (m g b a h : Nat) (W : World) : Prop where
  l_ : W.heap[w.heap.size]? = some (.cells #[.slice A n c] 25 (0, 0))
  r_ : W.heap[w.heap.size + 1]? = some (.cells #[.bool false] 4 (0, 0))
  n_ : W.heap[w.heap.size + 2]? = some (.cells #[.int .i64 nd.kind, .int .i64 nd.depth, .int .i64 nd.sign, .int .i64 nd.turn, .bool nd.mir, .int .i64 nd.state, .int .i64 nd.mn, .int .i64 nd.mx] 78 (0, 0))
  m_ : W.heap[w.heap.size + 3]? = some (.cells #[.int .i64 m] 3 (0, 0))
  g_ : W.heap[w.heap.size + 4]? = some (.cells #[.int .i64 g] 3 (0, 0))
  b_ : W.heap[w.heap.size + 5]? = some (.cells #[.int .i64 b] 3 (0, 0))
  a_ : W.heap[w.heap.size + 6]? = some (.cells #[.int .i64 a] 3 (0, 0))
  h_ : W.heap[w.heap.size + 7]? = some (.cells #[.int .i64 h] 3 (0, 0))
  x_ : W.heap[w.heap.size + 8]? = some (.cells #[.slice A n c] 25 (0, 0))
  y_ : W.heap[w.heap.size + 9]? = some (.cells #[.int .i64 (i : Int)] 3 (0, 0))
  bel : Below w.heap.size w W
theorem FM.grown {A : Option Addr} {n c i : Nat} {nd : Nd} {w : World} {m g b a h : Nat} {W W' : World} {row : Option Nat} (f : FM A n c i nd w m g b a h W) (hg : W.grownBy W' row) (hr : ∀ r, row = some r → w.heap.size + 10 ≤ r) : FM A n c i nd w m g b a h W' := by
  have hz := lt_of_block f.y_
  have k : ∀ (j : Nat) (o : Obj), j < w.heap.size + 10 → W.heap[j]? = some o → W'.heap[j]? = some o := fun j o hj ho => (hg.block j (lt_of_block ho) fun e => by have := hr _ e.symm; omega).trans ho
  exact ⟨k _ _ (by omega) f.l_, k _ _ (by omega) f.r_, k _ _ (by omega) f.n_, k _ _ (by omega) f.m_, k _ _ (by omega) f.g_, k _ _ (by omega) f.b_, k _ _ (by omega) f.a_, k _ _ (by omega) f.h_, k _ _ (by omega) f.x_, k _ _ (by omega) f.y_,
    f.bel.grown hg (by omega) fun r e => by have := hr r e; omega⟩
theorem FM.stands {A : Option Addr} {n c i : Nat} {nd : Nd} {w : World} {m g b a h : Nat} {P : Prop} : Stands (w.heap.size + 10) (fun W => FM A n c i nd w m g b a h W ∧ P) :=
  Stands.of_grown fun _ _ _ ⟨f, p⟩ hg hr => ⟨f.grown hg fun r e => (hr r e).1, p⟩
section
variable {A : Option Addr} {n c i : Nat} {nd : Nd} {w : World} {m g b a h : Nat} {W : World}
theorem FM.setM (f : FM A n c i nd w m g b a h W) {z : Int} (m' : Nat) (hzz : z = m') : FM A n c i nd w m' g b a h (W.setCell ⟨w.heap.size + 3, 0, none⟩ (.int .i64 z)) := by
  subst hzz
  have k : ∀ (j : Nat), j ≠ w.heap.size + 3 → (W.setCell ⟨w.heap.size + 3, 0, none⟩ (.int .i64 m')).heap[j]? = W.heap[j]? := fun j hj => Below.heap_setCell _ _ _ _ hj
  exact ⟨(k _ (by omega)).trans f.l_, (k _ (by omega)).trans f.r_, (k _ (by omega)).trans f.n_, one_setCell f.m_, (k _ (by omega)).trans f.g_, (k _ (by omega)).trans f.b_, (k _ (by omega)).trans f.a_, (k _ (by omega)).trans f.h_, (k _ (by omega)).trans f.x_, (k _ (by omega)).trans f.y_, f.bel.setCell (by simp) _⟩
theorem FM.setG (f : FM A n c i nd w m g b a h W) {z : Int} (m' : Nat) (hzz : z = m') : FM A n c i nd w m m' b a h (W.setCell ⟨w.heap.size + 4, 0, none⟩ (.int .i64 z)) := by
  subst hzz
  have k : ∀ (j : Nat), j ≠ w.heap.size + 4 → (W.setCell ⟨w.heap.size + 4, 0, none⟩ (.int .i64 m')).heap[j]? = W.heap[j]? := fun j hj => Below.heap_setCell _ _ _ _ hj
  exact ⟨(k _ (by omega)).trans f.l_, (k _ (by omega)).trans f.r_, (k _ (by omega)).trans f.n_, (k _ (by omega)).trans f.m_, one_setCell f.g_, (k _ (by omega)).trans f.b_, (k _ (by omega)).trans f.a_, (k _ (by omega)).trans f.h_, (k _ (by omega)).trans f.x_, (k _ (by omega)).trans f.y_, f.bel.setCell (by simp) _⟩
theorem FM.setB (f : FM A n c i nd w m g b a h W) {z : Int} (m' : Nat) (hzz : z = m') : FM A n c i nd w m g m' a h (W.setCell ⟨w.heap.size + 5, 0, none⟩ (.int .i64 z)) := by
  subst hzz
  have k : ∀ (j : Nat), j ≠ w.heap.size + 5 → (W.setCell ⟨w.heap.size + 5, 0, none⟩ (.int .i64 m')).heap[j]? = W.heap[j]? := fun j hj => Below.heap_setCell _ _ _ _ hj
  exact ⟨(k _ (by omega)).trans f.l_, (k _ (by omega)).trans f.r_, (k _ (by omega)).trans f.n_, (k _ (by omega)).trans f.m_, (k _ (by omega)).trans f.g_, one_setCell f.b_, (k _ (by omega)).trans f.a_, (k _ (by omega)).trans f.h_, (k _ (by omega)).trans f.x_, (k _ (by omega)).trans f.y_, f.bel.setCell (by simp) _⟩
theorem FM.setA (f : FM A n c i nd w m g b a h W) {z : Int} (m' : Nat) (hzz : z = m') : FM A n c i nd w m g b m' h (W.setCell ⟨w.heap.size + 6, 0, none⟩ (.int .i64 z)) := by
  subst hzz
  have k : ∀ (j : Nat), j ≠ w.heap.size + 6 → (W.setCell ⟨w.heap.size + 6, 0, none⟩ (.int .i64 m')).heap[j]? = W.heap[j]? := fun j hj => Below.heap_setCell _ _ _ _ hj
  exact ⟨(k _ (by omega)).trans f.l_, (k _ (by omega)).trans f.r_, (k _ (by omega)).trans f.n_, (k _ (by omega)).trans f.m_, (k _ (by omega)).trans f.g_, (k _ (by omega)).trans f.b_, one_setCell f.a_, (k _ (by omega)).trans f.h_, (k _ (by omega)).trans f.x_, (k _ (by omega)).trans f.y_, f.bel.setCell (by simp) _⟩
theorem FM.setH (f : FM A n c i nd w m g b a h W) {z : Int} (m' : Nat) (hzz : z = m') : FM A n c i nd w m g b a m' (W.setCell ⟨w.heap.size + 7, 0, none⟩ (.int .i64 z)) := by
  subst hzz
  have k : ∀ (j : Nat), j ≠ w.heap.size + 7 → (W.setCell ⟨w.heap.size + 7, 0, none⟩ (.int .i64 m')).heap[j]? = W.heap[j]? := fun j hj => Below.heap_setCell _ _ _ _ hj
  exact ⟨(k _ (by omega)).trans f.l_, (k _ (by omega)).trans f.r_, (k _ (by omega)).trans f.n_, (k _ (by omega)).trans f.m_, (k _ (by omega)).trans f.g_, (k _ (by omega)).trans f.b_, (k _ (by omega)).trans f.a_, one_setCell f.h_, (k _ (by omega)).trans f.x_, (k _ (by omega)).trans f.y_, f.bel.setCell (by simp) _⟩
theorem FM.kk {l : List Nd} (f : FM A l.length c i nd w m g b a h W) (r : Nds w w.heap.size A l) : KK l A c i w.heap.size (w.heap.size + 8) (w.heap.size + 9) W := ⟨f.x_, f.y_, r.below f.bel⟩
end
/-- The counts behind some kids. -/
def FI (l : List Nd) (A : Option Addr) (c i : Nat) (nd : Nd) (w : World) (s : List Nat) (W : World) : Prop :=
  FM A l.length c i nd w s.length (cntK l s 1) (cntK l s 2) (cntK l s 3) (cntK l s 7) W ∧ (kd l i = 5 ∨ cntK l s 7 = 0)
/-- An Honour was found where none may be: the answer lies in its box. -/
structure FX (l : List Nd) (i : Nat) (w : World) (s : List Nat) (W : World) : Prop where
  r_ : W.heap[w.heap.size + 1]? = some (.cells #[.bool false] 4 (0, 0))
  bel : Below w.heap.size w W
  no : ¬ kd l i = 5 ∧ cntK l s 7 ≠ 0
theorem FX.stands {l : List Nd} {i : Nat} {w : World} {s : List Nat} : Stands (w.heap.size + 10) (FX l i w s) :=
  Stands.of_grown fun W W' row f hg hr => ⟨(hg.block _ (lt_of_block f.r_) fun e => by have := (hr _ e.symm).1; omega).trans f.r_, f.bel.grown hg (by have := lt_of_block f.r_; omega) fun r e => by have := (hr r e).1; omega, f.no⟩
theorem Stands.and_ {D : Nat} {I : World → Prop} (h : Stands D I) (P : Prop) : Stands D (fun W => P ∧ I W) where
  draw := fun W q hi => ⟨hi.1, h.draw W q hi.2⟩
  alloc := fun W o hi => ⟨hi.1, h.alloc W o hi.2⟩
  put := fun W l o o' hi a b c => ⟨hi.1, h.put W l o o' hi.2 a b c⟩
/-- A function that answers whether P, and leaves what is there. -/
def BoolIs (P : Prop) (w : World) (e : Ending) (w' : World) : Prop := (∃ r : Bool, e = .returned (.bool r) ∧ (r = true ↔ P)) ∧ Below w.heap.size w w'
theorem BoolIs.get {P : Prop} {w : World} {e : Ending} {w' : World} (h : BoolIs P w e w') {r : Bool} (hr : r = true ↔ P) : e = .returned (.bool r) ∧ Below w.heap.size w w' := by
  obtain ⟨⟨r', rfl, h2⟩, hb⟩ := h
  obtain rfl : r' = r := Bool.eq_iff_iff.2 (h2.trans hr.symm)
  exact ⟨rfl, hb⟩
theorem putObj_cell {W : World} {D b : Nat} {o' : Obj} {v : Value} (h : W.cell? ⟨b, 0, none⟩ = some v) (hne : D ≠ b) : (W.putObj D o').cell? ⟨b, 0, none⟩ = some v :=
  (World.cell?_of_block (a := ⟨b, 0, none⟩) (World.putObj_heap_other (fun e => hne e.symm))).trans h
end Go.Proofs.Ytddbnggficlcfaa
