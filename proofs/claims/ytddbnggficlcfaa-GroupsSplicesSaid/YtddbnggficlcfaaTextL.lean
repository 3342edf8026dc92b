/- PLAIN LAW: texts that a function answers: Plain, Mirror, a part of a text, all node by node. -/
import Derived.Test.YtddbnggficlcfaaOrdE
import Derived.Test.YtddbnggficlcfaaCopy2
namespace Go.Proofs.Ytddbnggficlcfaa
open Go.RowKit
/-- A function that answers a text and an error. -/
def TxtPost (E : Int) (L : List Nd) (w : World) (e : Ending) (w' : World) : Prop := ∃ v, e = .returned (.tuple #[.agg #[v], .int .i64 E]) ∧ w'.ownsRow w.heap.size 78 8 v L.length (flatN L) ∧ Below w.heap.size w w'
theorem flatN_app (xs ys : List Nd) : flatN (xs ++ ys) = flatN xs ++ flatN ys := by unfold flatN; rw [List.flatMap_append]
theorem flatN_sing (n : Nd) : flatN [n] = n.cells := by unfold flatN; simp
/-- One cell of a row of nodes is written. -/
theorem flatN_set : ∀ (l : List Nd) (k j : Nat) (v : Value) (n' : Nd) (hk : k < l.length), j < 8 → n'.cells = (l[k].cells).set j v → (flatN l).set (k * 8 + j) v = flatN (l.set k n')
  | a :: l, 0, j, v, n', _, hj, h => by
    unfold flatN
    rw [List.flatMap_cons, List.set_cons_zero, List.flatMap_cons, Nat.zero_mul, Nat.zero_add, List.set_append_left _ _ (by simpa [Nd.cells] using hj)]
    rw [h]
    rfl
  | a :: l, k + 1, j, v, n', hk, hj, h => by
    have ih := flatN_set l k j v n' (by simpa using hk) hj h
    unfold flatN at ih ⊢
    rw [List.flatMap_cons, List.set_cons_succ, List.flatMap_cons, List.set_append_right _ _ (by simp only [Nd.cells, List.length_cons, List.length_nil]; omega)]
    have e : (k + 1) * 8 + j - a.cells.length = k * 8 + j := by simp only [Nd.cells, List.length_cons, List.length_nil]; omega
    rw [e, ih]
/-- A list of which the first k nodes are changed. -/
def mixN (f : Nd → Nd) (l : List Nd) (k : Nat) : List Nd := (l.take k).map f ++ l.drop k
theorem mixN_0 (f : Nd → Nd) (l : List Nd) : mixN f l 0 = l := by simp [mixN]
theorem mixN_all (f : Nd → Nd) (l : List Nd) : mixN f l l.length = l.map f := by simp [mixN]
theorem mixN_len (f : Nd → Nd) (l : List Nd) (k : Nat) : (mixN f l k).length = l.length := by simp [mixN]; omega
theorem mixN_get {f : Nd → Nd} {l : List Nd} {k : Nat} (hk : k < l.length) : (mixN f l k)[k]'(by rw [mixN_len]; exact hk) = l[k] := by
  unfold mixN
  rw [List.getElem_append_right (by simp; omega)]
  simp [Nat.min_eq_left (Nat.le_of_lt hk)]
theorem mixN_set {f : Nd → Nd} {l : List Nd} {k : Nat} (hk : k < l.length) : (mixN f l k).set k (f l[k]) = mixN f l (k + 1) := by
  unfold mixN
  have e : k - ((l.take k).map f).length = 0 := by simp; omega
  rw [List.set_append_right _ _ (by simp; omega), e, List.drop_eq_getElem_cons hk, List.set_cons_zero, List.take_add_one, List.getElem?_eq_getElem hk, Option.toList_some, List.map_append, List.append_assoc]
  rfl
theorem mixN_same {f : Nd → Nd} {l : List Nd} {k : Nat} (hk : k < l.length) (h : f l[k] = l[k]) : mixN f l k = mixN f l (k + 1) := by
  unfold mixN
  rw [List.drop_eq_getElem_cons hk, List.take_add_one, List.getElem?_eq_getElem hk, Option.toList_some, List.map_append, List.append_assoc, List.map_cons, h]
  rfl
/-- A node of a group that stands one less deep; an Honour becomes a Beside. -/
def lowN (x : Bool) (n : Nd) : Nd := { n with kind := if n.kind = 7 then 2 else n.kind, depth := n.depth - (if x then 1 else 0) }
/-- Does node k - 1 stand below an Honour that is the kid of a Ring, or is it one? -/
def inH (l : List Nd) : Nat → Bool
  | 0 => false
  | k + 1 => if dep l k = 0 then false else if kd l k = 7 then true else inH l k
/-- The nodes of Plain: of the first k nodes. -/
def plR (l : List Nd) : Nat → List Nd
  | 0 => []
  | k + 1 => if dep l k ≠ 0 ∧ kd l k = 7 then plR l k else plR l k ++ [lowN (inH l (k + 1)) (nd l k)]
theorem plR_len (l : List Nd) : ∀ k, (plR l k).length ≤ k
  | 0 => Nat.le_refl _
  | k + 1 => by
    have := plR_len l k
    unfold plR
    split
    · omega
    · simp; omega
noncomputable def plnL (P : Int) (ss : List Sg) (l : List Nd) : List Nd := if chkE P ss l = 0 then plR l l.length else []
theorem plnL_bad {P : Int} {ss : List Sg} {l : List Nd} (h : chkE P ss l ≠ 0) : plnL P ss l = [] := if_neg h
theorem plnL_ok {P : Int} {ss : List Sg} {l : List Nd} (h : chkE P ss l = 0) : plnL P ss l = plR l l.length := if_pos h
/-- A node that is mirrored, if its sign is not even. -/
def mirN (ss : List Sg) (n : Nd) : Nd := if n.kind = 1 ∧ evenOf ss n.sign = false then { n with mir := !n.mir } else n
noncomputable def mrrL (P : Int) (ss : List Sg) (l : List Nd) : List Nd := if chkE P ss l = 0 then l.map (mirN ss) else []
theorem mrrL_bad {P : Int} {ss : List Sg} {l : List Nd} (h : chkE P ss l ≠ 0) : mrrL P ss l = [] := if_neg h
theorem mrrL_ok {P : Int} {ss : List Sg} {l : List Nd} (h : chkE P ss l = 0) : mrrL P ss l = l.map (mirN ss) := if_pos h
/-- A node that stands d less deep. -/
def subN (d : Int) (n : Nd) : Nd := { n with depth := n.depth - d }
def partL (l : List Nd) (i : Nat) : List Nd := ((l.take (endOf l i)).drop i).map (subN (dep l i))
/-- The sign of a Glyph is one of the list. -/
theorem sign_ok {P : Int} {ss : List Sg} {l : List Nd} (h : chkE P ss l = 0) {i : Nat} (hi : i < l.length) (hk : l[i].kind = 1) : 0 ≤ l[i].sign ∧ l[i].sign < ss.length := by
  have h1 := firstE_get (chkE_zero h).2.2.1 i hi
  unfold ownE at h1
  rw [nd_at hi] at h1
  unfold ndE at h1
  rw [if_neg (by omega)] at h1
  split at h1
  · omega
  · split at h1
    · omega
    · omega
/-- An Honour is a group, or stands one deep. -/
theorem hon_dep {P : Int} {ss : List Sg} {l : List Nd} (h : chkE P ss l = 0) {i : Nat} (hi : i < l.length) (hk : kd l i = 7) : dep l i = 0 ∨ dep l i = 1 := by
  obtain ⟨_, _, h3, h4⟩ := chkE_zero h
  have hg := good_of h3
  have hp := hg.wf.pos i hi
  by_cases h0 : dep l i = 0
  · exact .inl h0
  · right
    obtain ⟨p, hpo, hpi, _, hd⟩ := par_kid hg.wf hi (by omega)
    have h5 := ((h4 i hi).2.2.1 hk (by omega)).1
    rw [hpo, Int.toNat_natCast] at h5
    have h6 := (h4 p (by omega)).2.1 h5
    have := hg.wf.pos p (by omega)
    omega
theorem txt_len {P : Int} {ss : List Sg} {l : List Nd} : (plnL P ss l).length ≤ l.length ∧ (mrrL P ss l).length ≤ l.length := by
  constructor
  · unfold plnL
    split
    · exact plR_len _ _
    · simp
  · unfold mrrL
    split
    · simp
    · simp
/-- A text that grows node by node in a box of its own. -/
structure OutT (B : Nat) (w : World) (L : List Nd) (v : Value) (W : World) : Prop where
  o_ : W.heap[B]? = some (.cells #[v] 27 (0, 0))
  own : W.ownsRow (B + 1) 78 8 v L.length (flatN L)
  bel : Below B w W
theorem OutT.below {B : Nat} {w W W' : World} {L : List Nd} {v : Value} (h : OutT B w L v W) (hb : Below W.heap.size W W') : OutT B w L v W' :=
  ⟨(hb.block _ (lt_of_block h.o_)).trans h.o_, own_keep h.own hb, h.bel.trans (hb.mono (by have := lt_of_block h.o_; omega))⟩
theorem OutT.start {B : Nat} {w : World} (hB : B = w.heap.size) : OutT B w [] (.slice none 0 0) (w.alloc (.cells #[.slice none 0 0] 27)) :=
  ⟨heap_nw hB, World.ownsRow_nil _ _ _ _, (Below.refl _ _).alloc (by omega) _⟩
theorem OutT.cell {B : Nat} {w W : World} {L : List Nd} {v : Value} (h : OutT B w L v W) : W.cell? ⟨B, 0, none⟩ = some v ∧ W.frozen? ⟨B, 0, none⟩ = false ∧ B < W.heap.size := ⟨cell_of_one h.o_, free_of_one h.o_, lt_of_block h.o_⟩
theorem OutT.step {B n : Nat} {w W W3 w4 : World} {L : List Nd} {v v4 : Value} {ys : List Value} {nd : Nd} (h : OutT B w L v W) (hb : Below W.heap.size W W3) (hn : n = L.length) (hy : ys = nd.cells) (ho : w4.ownsRow (B + 1) 78 8 v4 (n + 1) (flatN L ++ ys)) (hg : W3.grownBy w4 v.ownBlock) :
    w4.cell? ⟨B, 0, none⟩ = some v ∧ w4.frozen? ⟨B, 0, none⟩ = false ∧ OutT B w (L ++ [nd]) v4 (w4.setCell ⟨B, 0, none⟩ v4) := by
  subst hy hn
  have h3 := h.below hb
  have hne : v.ownBlock ≠ some B := fun e => by have := (h3.own.lt _ e).1; omega
  have hk : w4.heap[B]? = some (.cells #[v] 27 (0, 0)) := (hg.block B (lt_of_block h3.o_) (fun e => hne e.symm)).trans h3.o_
  refine ⟨cell_of_one hk, free_of_one hk, one_setCell hk, ?_, (below_app h3.bel h3.own hg (by omega) (by have := lt_of_block h3.o_; omega)).setCell (by simp) _⟩
  rw [List.length_append, flatN_app, flatN_sing]
  exact ownsRow_setCell_other ho (a := ⟨B, 0, none⟩) (fun he => by have := (ho.lt _ he).1; simp at this <;> omega) _
end Go.Proofs.Ytddbnggficlcfaa
