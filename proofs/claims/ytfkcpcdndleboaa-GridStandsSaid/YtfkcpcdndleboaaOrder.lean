/- WALK: groups.order: the leaves of a text, as they are read, and its rings. -/
import Derived.Test.YtfkcpcdndleboaaKids
namespace Go.Proofs.Ytfkcpcdndleboaa
open Go.RowKit Go.Shelf
def kd (l : List Nd) (i : Nat) : Int := match l[i]? with
  | some n => n.kind
  | none => 0
theorem kd_at {l : List Nd} {i : Nat} (h : i < l.length) : kd l i = l[i].kind := by
  unfold kd
  rw [List.getElem?_eq_getElem h]
def leafB (k : Int) : Bool := decide (k = 1) || decide (k = 6)
set_option maxRecDepth 100000 in
theorem isLeaf_any (k d s t : Int) (m : Bool) (st mn mx : Int) (w : World) :
    Calls Try.prog 118 #[.agg #[.int .i64 k, .int .i64 d, .int .i64 s, .int .i64 t, .bool m, .int .i64 st, .int .i64 mn, .int .i64 mx]] w fun e w' => e = .returned (.bool (leafB k)) ∧ Below w.heap.size w w' := by
  by_cases h1 : k = 1
  · have e1 : (k == 1) = true := by simp [h1]
    have HX : Hid (leafB k = true) := by rw [h1]; exact hid rfl
    clear h1
    go_enter Try.func118, Try.ntmps118
    go_wp2_with fail
    go_ret
    exact ⟨by rw [HX.out]; rfl, (Below.refl _ _).alloc (Nat.le_refl _) _⟩
  · have e1 : (k == 1) = false := by simp [h1]
    by_cases h2 : k = 6
    · have e2 : (k == 6) = true := by simp [h2]
      have HX : Hid (leafB k = true) := by rw [h2]; exact hid rfl
      clear h1 h2
      go_enter Try.func118, Try.ntmps118
      go_wp2_with fail
      go_ret
      exact ⟨by rw [HX.out]; rfl, (Below.refl _ _).alloc (Nat.le_refl _) _⟩
    · have e2 : (k == 6) = false := by simp [h2]
      have HX : Hid (leafB k = false) := by unfold leafB; rw [decide_eq_false h1, decide_eq_false h2]; exact hid rfl
      clear h1 h2
      go_enter Try.func118, Try.ntmps118
      go_wp2_with fail
      go_ret
      exact ⟨by rw [HX.out]; rfl, (Below.refl _ _).alloc (Nat.le_refl _) _⟩
/-- The kids of a node as they are read: those of an Honour from the second one on, the first one last. -/
def ordK (l : List Nd) (node : Int) : List Nat := if 0 ≤ node ∧ kd l node.toNat = 7 then (kidsOf l node).tail ++ (kidsOf l node).take 1 else kidsOf l node
def lvs (l : List Nd) : Nat → Int → List Nat
  | 0, _ => []
  | f + 1, node => if 0 ≤ node ∧ leafB (kd l node.toNat) = true then [node.toNat] else (ordK l node).flatMap fun k : Nat => lvs l f (k : Int)
def rgsL (rg : Nat → Nat → List (Nat × Nat × Nat)) (lv : Nat → Nat) : List Nat → Nat → List (Nat × Nat × Nat)
  | [], _ => []
  | k :: ks, r => rg k r ++ rgsL rg lv ks (r + lv k)
def rgs (l : List Nd) : Nat → Int → Nat → List (Nat × Nat × Nat)
  | 0, _, _ => []
  | f + 1, node, r => if 0 ≤ node ∧ leafB (kd l node.toNat) = true then [] else
    rgsL (fun (k : Nat) r => rgs l f (k : Int) r) (fun k : Nat => (lvs l f (k : Int)).length) (ordK l node) r ++ (if 0 ≤ node ∧ kd l node.toNat = 5 then [(node.toNat, r, r + (lvs l (f + 1) node).length)] else [])
/-- How many leaves were read. -/
def RdN (B r : Nat) (W : World) : Prop := W.heap[B + 3]? = some (.cells #[.int .i64 r] 3 (0, 0))
/-- What stays: all below n₀, the five boxes but that of the number of leaves, and every row of numbers. -/
structure KV (n0 B : Nat) (W W' : World) : Prop where
  bel : Below n0 W W'
  own : ∀ (k : Nat) (o : Obj), k ≠ B + 3 → ((B ≤ k ∧ k < B + 5) ∨ ∃ (cs : Array Value) (fz : Nat × Nat), o = Obj.cells cs 3 fz) → W.heap[k]? = some o → W'.heap[k]? = some o
theorem KV.refl (n0 B : Nat) (W : World) : KV n0 B W W := ⟨Below.refl _ _, fun _ _ _ _ h => h⟩
theorem KV.trans {n0 B : Nat} {a b c : World} (h : KV n0 B a b) (k : KV n0 B b c) : KV n0 B a c := ⟨h.bel.trans k.bel, fun i o h1 h2 h3 => k.own i o h1 h2 (h.own i o h1 h2 h3)⟩
theorem RdN.below {B r : Nat} {W W' : World} (h : RdN B r W) (hb : Below W.heap.size W W') : RdN B r W' := (hb.block _ (lt_of_block h)).trans h
theorem kidsR_mem {l : List Nd} {to : Nat} : ∀ (f k x : Nat), x ∈ kidsR l to f k → k ≤ x ∧ x < to
  | 0, _, _, h => by cases h
  | f + 1, k, x, h => by
    unfold kidsR at h
    split at h
    · rename_i hk
      rcases List.mem_cons.1 h with e | h
      · omega
      · have := kidsR_mem f _ x h
        have := endOf_gt l k
        omega
    · cases h
theorem kidsOf_mem {l : List Nd} {node : Int} (h1 : -1 ≤ node) (h2 : node < l.length) {x : Nat} (h : x ∈ kidsOf l node) : node < x ∧ x < l.length := by
  have h3 := kidsR_mem _ _ _ h
  unfold kidsFr kidsTo at h3
  split at h3
  · have := endOf_le (l := l) (i := node.toNat) (by omega)
    omega
  · omega
theorem nth_nz {x : List Nat} {i : Nat} (h : i < x.length) : nth (nz x) i = (x.getD i 0 : Int) := by
  unfold nth nz
  simp [List.getD, h]
def dn (l : List Nd) (f : Nat) (ks : List Nat) (j : Nat) : List Nat := (ks.take j).flatMap fun k : Nat => lvs l f (k : Int)
def rn (l : List Nd) (f : Nat) (ks : List Nat) (r j : Nat) : List (Nat × Nat × Nat) := rgsL (fun (k : Nat) r => rgs l f (k : Int) r) (fun k : Nat => (lvs l f (k : Int)).length) (ks.take j) r
end Go.Proofs.Ytfkcpcdndleboaa

/- WALK: groups.order as a whole. -/
namespace Go.Proofs.Ytfkcpcdndleboaa
open Go.RowKit Go.Shelf
def span (l : List Nd) (node : Int) : Nat := if 0 ≤ node then endOf l node.toNat - node.toNat else l.length
theorem endR_stops {l : List Nd} {d : Int} {t : Nat} (ht : ¬ (t < l.length ∧ d < dep l t)) : ∀ (f k : Nat), k ≤ t → endR l d f k ≤ t
  | 0, k, h => h
  | f + 1, k, h => by
    unfold endR
    split
    · rename_i h2
      by_cases e : k = t
      · subst e; exact absurd h2 ht
      · exact endR_stops ht f (k + 1) (by omega)
    · exact h
theorem endR_low {l : List Nd} {d : Int} : ∀ (f k j : Nat), k ≤ j → j < endR l d f k → d < dep l j
  | 0, k, j, h1, h2 => by unfold endR at h2; omega
  | f + 1, k, j, h1, h2 => by
    unfold endR at h2
    split at h2
    · rename_i h3
      by_cases e : j = k
      · subst e; exact h3.2
      · exact endR_low f (k + 1) j (by omega) h2
    · omega
theorem endR_at' {l : List Nd} {d : Int} (f k : Nat) (h : l.length ≤ f + k) : ¬ (endR l d f k < l.length ∧ d < dep l (endR l d f k)) := by
  induction f generalizing k with
  | zero => unfold endR; omega
  | succ f ih =>
    unfold endR
    split
    · exact ih (k + 1) (by omega)
    · rename_i h2; exact h2
/-- A kid's nodes lie among those of the node. -/
theorem end_in {l : List Nd} {node : Int} (_h1 : -1 ≤ node) (_h2 : node < l.length) {x : Nat} (hx : kidsFr node ≤ x) (hx2 : x < kidsTo l node) : endOf l x ≤ kidsTo l node := by
  unfold kidsFr at hx
  unfold kidsTo at hx2 ⊢
  split at hx
  · rename_i h0
    rw [if_pos h0] at hx2 ⊢
    have hd : dep l node.toNat < dep l x := endR_low _ _ _ hx hx2
    have hs := endR_at' (l := l) (d := dep l node.toNat) l.length (node.toNat + 1) (by omega)
    refine endR_stops (fun h => hs ⟨h.1, by have := h.2; show dep l node.toNat < dep l (endOf l node.toNat); omega⟩) _ _ (show x + 1 ≤ endOf l node.toNat by omega)
  · rename_i h0
    rw [if_neg h0] at hx2 ⊢
    exact endOf_le hx2
theorem kids_span {l : List Nd} {to : Nat} : ∀ (f k : Nat), (∀ x, k ≤ x → x < to → endOf l x ≤ to) → ((kidsR l to f k).map fun x : Nat => span l (x : Int)).sum ≤ to - k
  | 0, k, _ => by simp [kidsR]
  | f + 1, k, h => by
    unfold kidsR
    split
    · rename_i hk
      have h1 := h k (Nat.le_refl _) hk
      have h2 := endOf_gt l k
      have ih := kids_span f (endOf l k) fun x hx hx2 => h x (by omega) hx2
      rw [List.map_cons, List.sum_cons]
      have e : span l (k : Int) = endOf l k - k := if_pos (by omega)
      rw [e]
      omega
    · simp
/-- The leaves of a text in the order in which they are read; its rings. -/
def leaves (l : List Nd) : List Nat := lvs l (l.length + 1) (-1)
end Go.Proofs.Ytfkcpcdndleboaa

/- WALK: groups.line: the marks of a valid text. -/
namespace Go.Proofs.Ytfkcpcdndleboaa
open Go.RowKit Go.Shelf
structure Mk where
  sign : Int
  state : Int
  mn : Int
  mx : Int
deriving DecidableEq
instance : Inhabited Mk := ⟨⟨0, 0, 0, 0⟩⟩
def Mk.cells (m : Mk) : List Value := [.int .i64 m.sign, .int .i64 m.state, .int .i64 m.mn, .int .i64 m.mx]
def flatM (l : List Mk) : List Value := l.flatMap Mk.cells
theorem flatM_len (l : List Mk) : (flatM l).length = l.length * 4 := by
  unfold flatM
  induction l with
  | nil => rfl
  | cons a l ih => rw [List.flatMap_cons, List.length_append, ih, List.length_cons]; simp only [Mk.cells, List.length_cons, List.length_nil]; omega
end Go.Proofs.Ytfkcpcdndleboaa
