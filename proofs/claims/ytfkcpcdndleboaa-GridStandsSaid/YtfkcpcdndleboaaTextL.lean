/- groups.Order. -/
import Derived.Test.YtfkcpcdndleboaaOrder
import Derived.Test.YtfkcpcdndleboaaChk2
import Derived.Test.YtfkcpcdndleboaaCopy
import Derived.Deep.RegionLaw
import Derived.Test.YtfkcpcdndleboaaKids
namespace Go.Proofs.Ytfkcpcdndleboaa
open Go.RowKit
theorem flatM_get : ∀ (l : List Mk) (k j : Nat) (hk : k < l.length), j < 4 → (flatM l)[k * 4 + j]? = (l[k].cells)[j]?
  | a :: l, 0, j, _, hj => by
    unfold flatM
    rw [List.flatMap_cons, Nat.zero_mul, Nat.zero_add, List.getElem?_append_left (by simpa [Mk.cells] using hj)]
    rfl
  | a :: l, k + 1, j, hk, hj => by
    have ih := flatM_get l k j (by simpa using hk) hj
    unfold flatM at ih ⊢
    rw [List.flatMap_cons, List.getElem?_append_right (by simp only [Mk.cells, List.length_cons, List.length_nil]; omega)]
    have e : (k + 1) * 4 + j - a.cells.length = k * 4 + j := by simp only [Mk.cells, List.length_cons, List.length_nil]; omega
    rw [e, ih]
    rfl
def Mks (w : World) (B : Nat) (A : Option Addr) (l : List Mk) : Prop := Reads w B 4 A l.length (flatM l)
structure MkAt (w : World) (b o : Nat) (m : Mk) : Prop where
  sign : w.cell? ⟨b, o, none⟩ = some (.int .i64 m.sign)
  state : w.cell? ⟨b, o + 1, none⟩ = some (.int .i64 m.state)
  mn : w.cell? ⟨b, o + 2, none⟩ = some (.int .i64 m.mn)
  mx : w.cell? ⟨b, o + 3, none⟩ = some (.int .i64 m.mx)
theorem Mks.at {w : World} {B : Nat} {A : Option Addr} {l : List Mk} (h : Mks w B A l) (hl : 0 < l.length) :
    ∃ b o, A = some ⟨b, o, none⟩ ∧ b < B ∧ ∀ k (hk : k < l.length), MkAt w b (o + k * 4) l[k] := by
  obtain ⟨b, o, rfl, hb, hc⟩ := Reads.at0 h hl (by rw [flatM_len]; omega)
  refine ⟨b, o, rfl, hb, fun k hk => ?_⟩
  have hx : ∀ j u, j < 4 → (l[k].cells)[j]? = some u → w.cell? ⟨b, o + k * 4 + j, none⟩ = some u := fun j u hj hu => by
    rw [Nat.add_assoc]
    exact hc _ u (by rw [flatM_get l k j hk hj]; exact hu)
  exact ⟨hx 0 _ (by omega) rfl, hx 1 _ (by omega) rfl, hx 2 _ (by omega) rfl, hx 3 _ (by omega) rfl⟩
theorem MkAt.below {w w' : World} {B b o : Nat} {m : Mk} (h : MkAt w b o m) (hb : Below B w w') (hB : b < B) : MkAt w' b o m :=
  have c : ∀ j, w'.cell? ⟨b, j, none⟩ = w.cell? ⟨b, j, none⟩ := fun j => hb.cell (p := ⟨b, j, none⟩) hB
  ⟨(c _).trans h.sign, (c _).trans h.state, (c _).trans h.mn, (c _).trans h.mx⟩
end Go.Proofs.Ytfkcpcdndleboaa

/- PLAIN LAW: texts that a function answers: Plain, Mirror, a part of a text, all node by node. -/
namespace Go.Proofs.Ytfkcpcdndleboaa
open Go.RowKit
/-- A function that answers a text and an error. -/
def TxtPost (E : Int) (L : List Nd) (w : World) (e : Ending) (w' : World) : Prop := ∃ v, e = .returned (.tuple #[.agg #[v], .int .i64 E]) ∧ w'.ownsRow w.heap.size 49 8 v L.length (flatN L) ∧ Below w.heap.size w w'
theorem flatN_app (xs ys : List Nd) : flatN (xs ++ ys) = flatN xs ++ flatN ys := by unfold flatN; rw [List.flatMap_append]
theorem flatN_sing (n : Nd) : flatN [n] = n.cells := by unfold flatN; simp
/-- A node of a group that stands one less deep; an Honour becomes a Beside. -/
def lowN (x : Bool) (n : Nd) : Nd := { n with kind := if n.kind = 7 then 2 else n.kind, depth := n.depth - (if x then 1 else 0) }
/-- Does node k - 1 stand below an Honour that is the kid of a Ring, or is it one? -/
def inH (l : List Nd) : Nat → Bool
  | 0 => false
  | k + 1 => if dep l k = 0 then false else if kd l k = 7 then true else inH l k
/-- The nodes of Plain: of the first k nodes. -/
def plR (l : List Nd) : Nat → List Nd
  | 0 => []
  | k + 1 => if dep l k ≠ 0 ∧ kd l k = 7 then plR l k else plR l k ++ [lowN (inH l (k + 1)) (nd l k)]
theorem plR_len (l : List Nd) : ∀ k, (plR l k).length ≤ k
  | 0 => Nat.le_refl _
  | k + 1 => by
    have := plR_len l k
    unfold plR
    split
    · omega
    · simp; omega
noncomputable def plnL (P : Int) (ss : List Sg) (l : List Nd) : List Nd := if chkE P ss l = 0 then plR l l.length else []
theorem plnL_bad {P : Int} {ss : List Sg} {l : List Nd} (h : chkE P ss l ≠ 0) : plnL P ss l = [] := if_neg h
theorem plnL_ok {P : Int} {ss : List Sg} {l : List Nd} (h : chkE P ss l = 0) : plnL P ss l = plR l l.length := if_pos h
/-- A node that stands d less deep. -/
def subN (d : Int) (n : Nd) : Nd := { n with depth := n.depth - d }
/-- An Honour is a group, or stands one deep. -/
theorem hon_dep {P : Int} {ss : List Sg} {l : List Nd} (h : chkE P ss l = 0) {i : Nat} (hi : i < l.length) (hk : kd l i = 7) : dep l i = 0 ∨ dep l i = 1 := by
  obtain ⟨_, _, h3, h4⟩ := chkE_zero h
  have hg := good_of h3
  have hp := hg.wf.pos i hi
  by_cases h0 : dep l i = 0
  · exact .inl h0
  · right
    obtain ⟨p, hpo, hpi, _, hd⟩ := par_kid hg.wf hi (by omega)
    have h5 := ((h4 i hi).2.2.1 hk (by omega)).1
    rw [hpo, Int.toNat_natCast] at h5
    have h6 := (h4 p (by omega)).2.1 h5
    have := hg.wf.pos p (by omega)
    omega
/-- A text that grows node by node in a box of its own. -/
structure OutT (B : Nat) (w : World) (L : List Nd) (v : Value) (W : World) : Prop where
  o_ : W.heap[B]? = some (.cells #[v] 27 (0, 0))
  own : W.ownsRow (B + 1) 49 8 v L.length (flatN L)
  bel : Below B w W
theorem OutT.below {B : Nat} {w W W' : World} {L : List Nd} {v : Value} (h : OutT B w L v W) (hb : Below W.heap.size W W') : OutT B w L v W' :=
  ⟨(hb.block _ (lt_of_block h.o_)).trans h.o_, own_keep h.own hb, h.bel.trans (hb.mono (by have := lt_of_block h.o_; omega))⟩
theorem OutT.start {B : Nat} {w : World} (hB : B = w.heap.size) : OutT B w [] (.slice none 0 0) (w.alloc (.cells #[.slice none 0 0] 27)) :=
  ⟨heap_nw hB, World.ownsRow_nil _ _ _ _, (Below.refl _ _).alloc (by omega) _⟩
theorem OutT.cell {B : Nat} {w W : World} {L : List Nd} {v : Value} (h : OutT B w L v W) : W.cell? ⟨B, 0, none⟩ = some v ∧ W.frozen? ⟨B, 0, none⟩ = false ∧ B < W.heap.size := ⟨cell_of_one h.o_, free_of_one h.o_, lt_of_block h.o_⟩
theorem OutT.step {B n : Nat} {w W W3 w4 : World} {L : List Nd} {v v4 : Value} {ys : List Value} {nd : Nd} (h : OutT B w L v W) (hb : Below W.heap.size W W3) (hn : n = L.length) (hy : ys = nd.cells) (ho : w4.ownsRow (B + 1) 49 8 v4 (n + 1) (flatN L ++ ys)) (hg : W3.grownBy w4 v.ownBlock) :
    w4.cell? ⟨B, 0, none⟩ = some v ∧ w4.frozen? ⟨B, 0, none⟩ = false ∧ OutT B w (L ++ [nd]) v4 (w4.setCell ⟨B, 0, none⟩ v4) := by
  subst hy hn
  have h3 := h.below hb
  have hne : v.ownBlock ≠ some B := fun e => by have := (h3.own.lt _ e).1; omega
  have hk : w4.heap[B]? = some (.cells #[v] 27 (0, 0)) := (hg.block B (lt_of_block h3.o_) (fun e => hne e.symm)).trans h3.o_
  refine ⟨cell_of_one hk, free_of_one hk, one_setCell hk, ?_, (below_app h3.bel h3.own hg (by omega) (by have := lt_of_block h3.o_; omega)).setCell (by simp) _⟩
  rw [List.length_append, flatN_app, flatN_sing]
  exact ownsRow_setCell_other ho (a := ⟨B, 0, none⟩) (fun he => by have := (ho.lt _ he).1; simp at this <;> omega) _
end Go.Proofs.Ytfkcpcdndleboaa

/- slices.Clone at nodes. -/
namespace Go.Proofs.Ytfkcpcdndleboaa
open Go.RowKit Go.Shelf
end Go.Proofs.Ytfkcpcdndleboaa

/- groups.Mirror. -/
namespace Go.Proofs.Ytfkcpcdndleboaa
open Go.RowKit Go.Shelf
end Go.Proofs.Ytfkcpcdndleboaa

/- groups.part, ostraconref02.Below: a node and all below it. -/
namespace Go.Proofs.Ytfkcpcdndleboaa
open Go.RowKit Go.Shelf
end Go.Proofs.Ytfkcpcdndleboaa

/- PLAIN LAW: some groups of a text are replaced. -/
namespace Go.Proofs.Ytfkcpcdndleboaa
/-- Where group i begins; behind the last: the end of the text. -/
def posG (l : List Nd) (i : Nat) : Nat := (kidsOf l (-1) ++ [l.length]).getD i l.length
theorem kf_pos {l : List Nd} : ∀ (m k : Nat), l.length ≤ m + k → k ≤ l.length →
    (kidsFrom l l.length k ++ [l.length])[0]? = some k ∧ ∀ i (h : i < (kidsFrom l l.length k).length), (kidsFrom l l.length k ++ [l.length])[i + 1]? = some (endOf l (kidsFrom l l.length k)[i])
  | 0, k, h1, h2 => by
    obtain rfl : k = l.length := by omega
    rw [kidsFrom_stop (by omega)]
    exact ⟨rfl, fun i h => by simp at h⟩
  | m + 1, k, h1, h2 => by
    by_cases h : k < l.length
    · have hgt := endOf_gt l k
      obtain ⟨a1, a2⟩ := kf_pos (l := l) m (endOf l k) (by omega) (endOf_le h)
      rw [kidsFrom_s h]
      refine ⟨rfl, fun i hi => ?_⟩
      cases i with
      | zero =>
        rw [List.cons_append, List.getElem?_cons_succ, a1]
        rfl
      | succ i =>
        rw [List.cons_append, List.getElem?_cons_succ, a2 i (by simpa using hi)]
        rfl
    · rw [kidsFrom_stop h]
      obtain rfl : k = l.length := by omega
      exact ⟨rfl, fun i h => by simp at h⟩
theorem kidsOf_top (l : List Nd) : kidsOf l (-1) = kidsFrom l l.length 0 := rfl
theorem posG_0 (l : List Nd) : posG l 0 = 0 := by
  unfold posG
  rw [kidsOf_top, List.getD_eq_getElem?_getD, (kf_pos (l := l) l.length 0 (by omega) (by omega)).1]
  rfl
theorem posG_at {l : List Nd} {i : Nat} (h : i < (kidsOf l (-1)).length) : posG l i = (kidsOf l (-1))[i] := by
  unfold posG
  rw [List.getD_eq_getElem?_getD, List.getElem?_append_left h, List.getElem?_eq_getElem h]
  rfl
theorem posG_s {l : List Nd} {i : Nat} (h : i < (kidsOf l (-1)).length) : posG l (i + 1) = endOf l (posG l i) := by
  rw [posG_at h]
  unfold posG
  have hq : (kidsOf l (-1) ++ [l.length])[i + 1]? = some (endOf l (kidsOf l (-1))[i]) := (kf_pos (l := l) l.length 0 (by omega) (by omega)).2 i h
  rw [List.getD_eq_getElem?_getD, hq]
  rfl
theorem posG_end (l : List Nd) : posG l (kidsOf l (-1)).length = l.length := by
  unfold posG
  rw [List.getD_eq_getElem?_getD, List.getElem?_append_right (Nat.le_refl _)]
  simp
theorem posG_lt {l : List Nd} {i : Nat} (h : i < (kidsOf l (-1)).length) : posG l i < l.length := by
  rw [posG_at h]
  have := (kidsOf_mem (l := l) (node := -1) (by omega) (by omega) (List.getElem_mem h)).2
  omega
theorem posG_le {l : List Nd} {i : Nat} (h : i ≤ (kidsOf l (-1)).length) : posG l i ≤ l.length := by
  rcases Nat.eq_or_lt_of_le h with rfl | h
  · rw [posG_end]; exact Nat.le_refl _
  · exact Nat.le_of_lt (posG_lt h)
theorem posG_mono {l : List Nd} {i : Nat} : ∀ n, i + n ≤ (kidsOf l (-1)).length → posG l i ≤ posG l (i + n)
  | 0, _ => Nat.le_refl _
  | n + 1, h => by
    refine Nat.le_trans (posG_mono n (by omega)) ?_
    rw [← Nat.add_assoc, posG_s (by omega)]
    exact Nat.le_of_lt (endOf_gt _ _)
theorem posG_mono' {l : List Nd} {i j : Nat} (h : i ≤ j) (hj : j ≤ (kidsOf l (-1)).length) : posG l i ≤ posG l j := by
  obtain ⟨n, rfl⟩ : ∃ n, j = i + n := ⟨j - i, by omega⟩
  exact posG_mono n hj
end Go.Proofs.Ytfkcpcdndleboaa

/- WALK: slices.Grow of nothing, slices.Concat of rows of nodes. -/
namespace Go.Proofs.Ytfkcpcdndleboaa
open Go.RowKit
end Go.Proofs.Ytfkcpcdndleboaa
