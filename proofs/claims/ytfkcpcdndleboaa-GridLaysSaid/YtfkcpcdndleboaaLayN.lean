/- PLAIN LAW: the document's boxes of a node, kid by kid. -/
import Derived.Test.YtfkcpcdndleboaaPutL
import Derived.Test.YtfkcpcdndleboaaSizeR
import Derived.Test.YtfkcpcdndleboaaStandR
import Derived.Test.YtfkcpcdndleboaaCopy
import Derived.Test.YtfkcpcdndleboaaLayE
import Derived.Deep.CutBlock
import Derived.Test.YtfkcpcdndleboaaNatP
namespace Go.Proofs.Ytfkcpcdndleboaa
/-- The spots of a node that stands in a rectangle. -/
def plS (ss : List Sg) (l : List Nd) (rows : Bool) (f i : Nat) (x y w h : Int) : List Spot := if leafB (kd l i) = true then [⟨i, x, y, w, h⟩] else spotsN ss l rows f i x y
section
variable {P : Int} {ss : List Sg} {l : List Nd} {rows : Bool} {f i : Nat}
theorem plS_sz {x y w h : Int} (hf : 0 < f) (hs : (w, h) = szN ss l rows f i) : plS ss l rows f i x y w h = spotsN ss l rows f i x y := by
  obtain ⟨g, rfl⟩ : ∃ g, f = g + 1 := ⟨f - 1, by omega⟩
  unfold plS
  split
  · rename_i hl
    unfold spotsN
    rw [if_pos hl, ← hs]
  · rfl
theorem plS_len (hp : Pln P ss l) (hi : i < l.length) (hf : l.length ≤ f + i) {x y w h : Int} : (plS ss l rows f i x y w h).length ≤ 200 := by
  unfold plS
  split
  · simp
  · have := spots_len (rows := rows) hp f i hi hf x y
    have h2 : spn l i ≤ 200 := by unfold spn; have := endOf_le (l := l) (i := i) hi; have := hp.len; omega
    omega
end
section
variable (ss : List Sg) (l : List Nd) (rows : Bool) (f i : Nat) (x y w h : Int)
/-- The spots before the kids, and of the first kids. -/
def plJ (j : Nat) : List Spot := if kd l i = 4 then ([⟨i + 1, x, y, w, h⟩, ⟨i + 2, x + w / 4, y + h / 4, w / 2, h / 2⟩] : List Spot).take j else
  (if kd l i = 5 then [⟨i, x, y, w, h⟩] else []) ++ kidSp (spotsN ss l rows f) (szN ss l rows f) (acr rows (nd l i)) (spcOf (nd l i)) (inZ rows l (szN ss l rows f) i) ((kidsOf l (i : Int)).take j) (x + brd (nd l i)) (y + brd (nd l i))
/-- How far the first kids reach. -/
def posJ (j : Nat) : Int := if kd l i = 4 then 0 else offS (szN ss l rows f) (acr rows (nd l i)) (spcOf (nd l i)) ((kidsOf l (i : Int)).take j)
/-- Where a kid stands. -/
def recJ (j : Nat) (q : Int × Int) : Int × Int × Int × Int := if kd l i = 4 then (if j = 1 then (x + w / 4, y + h / 4, w / 2, h / 2) else (x, y, q.1, q.2)) else
  if acr rows (nd l i) then (x + brd (nd l i) + posJ ss l rows f i j, y + brd (nd l i) + (h - 2 * brd (nd l i) - q.2) / 2, q.1, q.2) else (x + brd (nd l i) + (w - 2 * brd (nd l i) - q.1) / 2, y + brd (nd l i) + posJ ss l rows f i j, q.1, q.2)
end
section
variable {P : Int} {ss : List Sg} {l : List Nd} {rows : Bool} {f i : Nat} {x y w h : Int}
theorem brd_kd (hi : i < l.length) : brd (nd l i) = if kd l i = 5 then 12 else 0 := by
  unfold brd
  rw [nd_at hi, kd_at hi]
theorem plJ_0 : plJ ss l rows f i x y w h 0 = if kd l i = 5 then [⟨i, x, y, w, h⟩] else [] := by
  unfold plJ
  split
  · rename_i h4
    rw [if_neg (by omega), List.take_zero]
  · rw [List.take_zero]
    unfold kidSp
    rw [List.append_nil]
theorem posJ_0 : posJ ss l rows f i 0 = 0 := by
  unfold posJ
  split
  · rfl
  · rw [List.take_zero]; rfl
theorem szN_in (hi : i < l.length) (hl : leafB (kd l i) = false) (h4 : kd l i ≠ 4) (hs : (w, h) = szN ss l rows (f + 1) i) : inZ rows l (szN ss l rows f) i = (w - 2 * brd (nd l i), h - 2 * brd (nd l i)) := by
  have h1 := congrArg Prod.fst hs; have h2 := congrArg Prod.snd hs
  simp only [] at h1 h2
  rcases szN_grp (ss := ss) (rows := rows) (f := f) hl h4 with e | e
  · rw [e] at h1 h2
    simp only [] at h1 h2
    refine Prod.ext ?_ ?_
    · show _ = w - 2 * brd (nd l i); omega
    · show _ = h - 2 * brd (nd l i); omega
  · omega
theorem plJ_end (hp : Pln P ss l) (hi : i < l.length) (hl : leafB (kd l i) = false) (hs : (w, h) = szN ss l rows (f + 1) i) : plJ ss l rows f i x y w h (kidsOf l (i : Int)).length = spotsN ss l rows (f + 1) i x y := by
  have hl' : ¬ leafB (kd l i) = true := by simp [hl]
  by_cases h4 : kd l i = 4
  · unfold plJ
    rw [if_pos h4, (over_kids hp.val hi h4).1]
    unfold spotsN
    rw [if_neg hl', if_pos h4, ← hs]
    rfl
  · unfold plJ
    rw [if_neg h4, List.take_length]
    unfold spotsN
    rw [if_neg hl', if_neg h4, ← hs]
/-- One kid more. -/
structure KidOk (ss : List Sg) (l : List Nd) (rows : Bool) (f i : Nat) (x y w h : Int) (j k : Nat) (q : Int × Int) : Prop where
  ik : i < k
  kl : k < l.length
  q1 : 0 ≤ q.1
  q2 : q.1 ≤ 26400
  q3 : 0 ≤ q.2
  q4 : q.2 ≤ 26400
  pos0 : 0 ≤ posJ ss l rows f i j
  pos1 : posJ ss l rows f i j ≤ 27000 * j
  fit : leafB (kd l k) = true ∨ ((recJ ss l rows f i x y w h j q).2.2.1, (recJ ss l rows f i x y w h j q).2.2.2) = szN ss l rows f k
  step : plJ ss l rows f i x y w h (j + 1) = plJ ss l rows f i x y w h j ++ plS ss l rows f k (recJ ss l rows f i x y w h j q).1 (recJ ss l rows f i x y w h j q).2.1 (recJ ss l rows f i x y w h j q).2.2.1 (recJ ss l rows f i x y w h j q).2.2.2
  nxt : posJ ss l rows f i (j + 1) = if kd l i = 4 then 0 else posJ ss l rows f i j + ((if acr rows (nd l i) then q.1 else q.2) + spcOf (nd l i))
  in1 : kd l i ≠ 4 → acr rows (nd l i) = true → 0 ≤ h - 2 * brd (nd l i) - q.2
  in2 : kd l i ≠ 4 → acr rows (nd l i) = false → 0 ≤ w - 2 * brd (nd l i) - q.1
theorem posJ_bd (hp : Pln P ss l) (hi : i < l.length) (hf : l.length ≤ f + 1 + i) : ∀ j, j ≤ (kidsOf l (i : Int)).length → 0 ≤ posJ ss l rows f i j ∧ posJ ss l rows f i j ≤ 27000 * j
  | 0, _ => by rw [posJ_0]; simp
  | j + 1, hj => by
    have ih := posJ_bd hp hi hf j (by omega)
    unfold posJ at ih ⊢
    split
    · omega
    · rename_i h4
      rw [if_neg h4] at ih
      have hlt : j < (kidsOf l (i : Int)).length := by omega
      have e : (kidsOf l (i : Int)).take (j + 1) = (kidsOf l (i : Int)).take j ++ [(kidsOf l (i : Int))[j]] := by rw [List.take_add_one, List.getElem?_eq_getElem hlt]; rfl
      rw [e, offS_snoc]
      have hm := kidsOf_mem (l := l) (node := (i : Int)) (by omega) (by omega) (List.getElem_mem hlt)
      have hz := szN_ok (rows := rows) hp f (kidsOf l (i : Int))[j] (by omega) (by omega)
      have hsp := spc_ok hp.val hi
      have h2 : spn l (kidsOf l (i : Int))[j] ≤ 200 := by unfold spn; have := endOf_le (l := l) (i := (kidsOf l (i : Int))[j]) (by omega); have := hp.len; omega
      have a1 := hz.p1; have a2 := hz.p2; have a3 := hz.b1; have a4 := hz.b2
      have : ((j + 1 : Nat) : Int) = (j : Int) + 1 := by omega
      rw [this]
      split <;> omega
theorem kid_ok (hp : Pln P ss l) (hi : i < l.length) (hf : l.length ≤ f + 1 + i) (hl : leafB (kd l i) = false) (hs : (w, h) = szN ss l rows (f + 1) i) {j : Nat} (hj : j < (kidsOf l (i : Int)).length) :
    KidOk ss l rows f i x y w h j (kidsOf l (i : Int))[j] (szN ss l rows f (kidsOf l (i : Int))[j]) := by
  have hm := kidsOf_mem (l := l) (node := (i : Int)) (by omega) (by omega) (List.getElem_mem hj)
  have hz := szN_ok (rows := rows) hp f (kidsOf l (i : Int))[j] (by omega) (by omega)
  have h2 : spn l (kidsOf l (i : Int))[j] ≤ 200 := by unfold spn; have := endOf_le (l := l) (i := (kidsOf l (i : Int))[j]) (by omega); have := hp.len; omega
  have a1 := hz.p1; have a2 := hz.p2; have a3 := hz.b1; have a4 := hz.b2
  have hpj := posJ_bd (rows := rows) hp hi hf j (by omega)
  have e : (kidsOf l (i : Int)).take (j + 1) = (kidsOf l (i : Int)).take j ++ [(kidsOf l (i : Int))[j]] := by rw [List.take_add_one, List.getElem?_eq_getElem hj]; rfl
  have hf0 : 0 < f := by omega
  have hZ := fun (h4 : kd l i ≠ 4) => szN_in hi hl h4 hs
  have hmx : kd l i ≠ 4 → acr rows (nd l i) = true → 0 ≤ h - 2 * brd (nd l i) - (szN ss l rows f (kidsOf l (i : Int))[j]).2 := fun h4 ha => by
    have h5 := hZ h4
    rw [inZ_true ha] at h5
    have h6 := congrArg Prod.snd h5
    simp only [] at h6
    have := max_ge _ _ (List.mem_map.2 ⟨(kidsOf l (i : Int))[j], List.getElem_mem hj, rfl⟩ : (szN ss l rows f (kidsOf l (i : Int))[j]).2 ∈ (kidsOf l (i : Int)).map fun k => (szN ss l rows f k).2)
    omega
  have hmy : kd l i ≠ 4 → acr rows (nd l i) = false → 0 ≤ w - 2 * brd (nd l i) - (szN ss l rows f (kidsOf l (i : Int))[j]).1 := fun h4 ha => by
    have h5 := hZ h4
    rw [inZ_false ha] at h5
    have h6 := congrArg Prod.fst h5
    simp only [] at h6
    have := max_ge _ _ (List.mem_map.2 ⟨(kidsOf l (i : Int))[j], List.getElem_mem hj, rfl⟩ : (szN ss l rows f (kidsOf l (i : Int))[j]).1 ∈ (kidsOf l (i : Int)).map fun k => (szN ss l rows f k).1)
    omega
  refine ⟨by omega, by omega, by omega, by omega, by omega, by omega, hpj.1, hpj.2, ?_, ?_, ?_, hmx, hmy⟩
  · by_cases h4 : kd l i = 4
    · left
      obtain ⟨o1, o2, o3, o4⟩ := over_kids hp.val hi h4
      have hk : (kidsOf l (i : Int))[j] = i + 1 ∨ (kidsOf l (i : Int))[j] = i + 2 := by
        have h7 : (kidsOf l (i : Int))[j] ∈ kidsOf l (i : Int) := List.getElem_mem hj
        generalize (kidsOf l (i : Int))[j] = k at *
        rw [o1] at h7
        simpa using h7
      rcases hk with hk | hk
      · rw [hk, o3]; rfl
      · rw [hk, o4]; rfl
    · right
      unfold recJ
      rw [if_neg h4]
      split <;> rfl
  · by_cases h4 : kd l i = 4
    · obtain ⟨o1, o2, o3, o4⟩ := over_kids hp.val hi h4
      unfold plJ recJ
      rw [if_pos h4, if_pos h4, if_pos h4]
      have hj2 : j < 2 := by rw [o1] at hj; simpa using hj
      have hs1 : (w, h) = szN ss l rows f (i + 1) := by
        rw [hs]
        obtain ⟨g, rfl⟩ : ∃ g, f = g + 1 := ⟨f - 1, by omega⟩
        have q1 : szN ss l rows (g + 1 + 1) i = leafSz ss (nd l (i + 1)) := by
          unfold szN
          rw [if_neg (by simp [hl]), if_pos h4]
        rw [q1]
        unfold szN
        rw [o3, if_pos (by rfl)]
      have hkk : ∀ k, (kidsOf l (i : Int))[j]? = some k → (kidsOf l (i : Int))[j] = k := fun k h => by rw [List.getElem?_eq_getElem hj] at h; exact Option.some.inj h
      rcases (show j = 0 ∨ j = 1 by omega) with rfl | rfl
      · have hk := hkk (i + 1) (by rw [o1]; rfl)
        rw [hk, if_neg (by decide), ← hs1]
        unfold plS
        rw [o3, if_pos (by rfl)]
        rfl
      · have hk := hkk (i + 2) (by rw [o1]; rfl)
        rw [hk, if_pos rfl]
        unfold plS
        rw [o4, if_pos (by rfl)]
        rfl
    · unfold plJ
      rw [if_neg h4, if_neg h4, e, kidSp_snoc, ← List.append_assoc]
      congr 1
      have hz5 := hZ h4
      rw [hz5]
      unfold recJ
      rw [if_neg h4]
      have hpe : posJ ss l rows f i j = offS (szN ss l rows f) (acr rows (nd l i)) (spcOf (nd l i)) ((kidsOf l (i : Int)).take j) := by unfold posJ; rw [if_neg h4]
      by_cases ha : acr rows (nd l i) = true
      · rw [if_pos ha, if_pos ha, ← hpe]
        simp only []
        exact (plS_sz hf0 rfl).symm
      · rw [if_neg ha, if_neg ha, ← hpe]
        simp only []
        exact (plS_sz hf0 rfl).symm
  · unfold posJ
    by_cases h4 : kd l i = 4
    · rw [if_pos h4, if_pos h4]
    · rw [if_neg h4, if_neg h4, if_neg h4, e, offS_snoc]
theorem plJ_len (hp : Pln P ss l) (hi : i < l.length) (hf : l.length ≤ f + 1 + i) (hl : leafB (kd l i) = false) (hs : (w, h) = szN ss l rows (f + 1) i) : ∀ j, j ≤ (kidsOf l (i : Int)).length → (plJ ss l rows f i x y w h j).length ≤ 1 + 200 * j
  | 0, _ => by rw [plJ_0]; split <;> simp
  | j + 1, hj => by
    have ih := plJ_len hp hi hf hl hs j (by omega)
    have hk := kid_ok (x := x) (y := y) hp hi hf hl hs (show j < (kidsOf l (i : Int)).length by omega)
    rw [hk.step, List.length_append]
    have hik := hk.ik
    have := plS_len (rows := rows) (f := f) hp hk.kl (by omega) (x := (recJ ss l rows f i x y w h j (szN ss l rows f (kidsOf l (i : Int))[j])).1) (y := (recJ ss l rows f i x y w h j (szN ss l rows f (kidsOf l (i : Int))[j])).2.1) (w := (recJ ss l rows f i x y w h j (szN ss l rows f (kidsOf l (i : Int))[j])).2.2.1) (h := (recJ ss l rows f i x y w h j (szN ss l rows f (kidsOf l (i : Int))[j])).2.2.2)
    omega
end
/-- Rectangles and bare boxes in rows. -/
def rcC (p : Spot) : List Value := [.int .i64 p.x, .int .i64 p.y, .int .i64 p.w, .int .i64 p.h]
def flatR (L : List Spot) : List Value := L.flatMap rcC
theorem flatR_app (L M : List Spot) : flatR (L ++ M) = flatR L ++ flatR M := List.flatMap_append ..
theorem flatR_one (s : Spot) : flatR [s] = rcC s := by unfold flatR; simp
theorem flatR_len (L : List Spot) : (flatR L).length = L.length * 4 := by
  induction L with
  | nil => rfl
  | cons x L ih => unfold flatR at ih ⊢; rw [List.flatMap_cons, List.length_append, ih, List.length_cons]; unfold rcC; simp; omega
theorem flatR_get : ∀ (L : List Spot) (k j : Nat) (hk : k < L.length), j < 4 → (flatR L)[k * 4 + j]? = (rcC L[k])[j]?
  | g :: L, 0, j, _, hj => by
    unfold flatR
    rw [List.flatMap_cons, List.getElem?_append_left (by unfold rcC; simp; omega)]
    simp
  | g :: L, k + 1, j, hk, hj => by
    have ih := flatR_get L k j (by simpa using hk) hj
    unfold flatR at ih ⊢
    rw [List.flatMap_cons, List.getElem?_append_right (by unfold rcC; simp; omega), List.getElem_cons_succ, ← ih]
    congr 1
    unfold rcC
    simp
    omega
end Go.Proofs.Ytfkcpcdndleboaa

/- WALK: the document's placed (printed by gen_plcr.py). -/
namespace Go.Proofs.Ytfkcpcdndleboaa
open Go.RowKit
/-- Bare boxes. -/
def bareB (l : List Nd) (L : List Spot) : List Bxv := L.map fun p => ⟨nd l p.node, ⟨0, 0⟩, ⟨0, 0⟩, ⟨0, 0⟩, ⟨0, 0⟩⟩
theorem bareB_app (l : List Nd) (L M : List Spot) : bareB l (L ++ M) = bareB l L ++ bareB l M := List.map_append ..
theorem bareB_len (l : List Nd) (L : List Spot) : (bareB l L).length = L.length := List.length_map ..
/-- Boxes and rectangles in slices. -/
structure OutS (W : World) (base : Nat) (l : List Nd) (v u : Value) (L : List Spot) : Prop where
  bx : W.ownsRow base 54 15 v L.length (flatB (bareB l L))
  rc : W.ownsRow base 139 4 u L.length (flatR L)
theorem OutS.below {W W' : World} {base : Nat} {l : List Nd} {v u : Value} {L : List Spot} (h : OutS W base l v u L) (hb : Below W.heap.size W W') : OutS W' base l v u L := ⟨own_keep h.bx hb, own_keep h.rc hb⟩
theorem flatB_lit (g : Nd) : flatB [⟨g, ⟨0, 0⟩, ⟨0, 0⟩, ⟨0, 0⟩, ⟨0, 0⟩⟩] = (#[.int .i64 g.kind, .int .i64 g.sign, .int .i64 g.turn, .bool g.mir, .int .i64 g.state, .int .i64 g.mn, .int .i64 g.mx, .int .i64 0, .int .i64 0, .int .i64 0, .int .i64 0, .int .i64 0, .int .i64 0, .int .i64 0, .int .i64 0] : Array Value).toList := by
  rw [flatB_one]
  rfl
theorem flatR_lit (i : Nat) (x y w h : Int) : flatR [⟨i, x, y, w, h⟩] = (#[.int .i64 x, .int .i64 y, .int .i64 w, .int .i64 h] : Array Value).toList := by
  rw [flatR_one]
  rfl
theorem OutS.leafA {w1 : World} {base : Nat} (hb : base ≤ w1.heap.size) {l : List Nd} {i : Nat} {x y w h : Int} {g : Nd} (hg : bareB l [⟨i, x, y, w, h⟩] = [⟨g, ⟨0, 0⟩, ⟨0, 0⟩, ⟨0, 0⟩, ⟨0, 0⟩⟩]) :
    OutS ((w1.alloc (.cells #[.int .i64 g.kind, .int .i64 g.sign, .int .i64 g.turn, .bool g.mir, .int .i64 g.state, .int .i64 g.mn, .int .i64 g.mx, .int .i64 0, .int .i64 0, .int .i64 0, .int .i64 0, .int .i64 0, .int .i64 0, .int .i64 0, .int .i64 0] 54)).alloc (.cells #[.int .i64 x, .int .i64 y, .int .i64 w, .int .i64 h] 139)) base l (.slice (some ⟨w1.heap.size, 0, none⟩) 1 1) (.slice (some ⟨w1.heap.size + 1, 0, none⟩) 1 1) [⟨i, x, y, w, h⟩] := by
  refine ⟨?_, ?_⟩
  · rw [hg, flatB_lit]
    exact (World.ownsRow_lit w1 _ 1 hb (by decide) rfl).alloc _
  · rw [flatR_lit]
    have := World.ownsRow_lit (base := base) (e := 139) (size := 4) (w1.alloc (.cells #[.int .i64 g.kind, .int .i64 g.sign, .int .i64 g.turn, .bool g.mir, .int .i64 g.state, .int .i64 g.mn, .int .i64 g.mx, .int .i64 0, .int .i64 0, .int .i64 0, .int .i64 0, .int .i64 0, .int .i64 0, .int .i64 0, .int .i64 0] 54)) #[.int .i64 x, .int .i64 y, .int .i64 w, .int .i64 h] 1 (by simp; omega) (by decide) rfl
    simpa using this
theorem OutS.leafB' {w1 : World} {base : Nat} (hb : base ≤ w1.heap.size) {l : List Nd} {i : Nat} {x y w h : Int} {g : Nd} (hg : bareB l [⟨i, x, y, w, h⟩] = [⟨g, ⟨0, 0⟩, ⟨0, 0⟩, ⟨0, 0⟩, ⟨0, 0⟩⟩]) :
    OutS ((w1.alloc (.cells #[.int .i64 x, .int .i64 y, .int .i64 w, .int .i64 h] 139)).alloc (.cells #[.int .i64 g.kind, .int .i64 g.sign, .int .i64 g.turn, .bool g.mir, .int .i64 g.state, .int .i64 g.mn, .int .i64 g.mx, .int .i64 0, .int .i64 0, .int .i64 0, .int .i64 0, .int .i64 0, .int .i64 0, .int .i64 0, .int .i64 0] 54)) base l (.slice (some ⟨w1.heap.size + 1, 0, none⟩) 1 1) (.slice (some ⟨w1.heap.size, 0, none⟩) 1 1) [⟨i, x, y, w, h⟩] := by
  refine ⟨?_, ?_⟩
  · rw [hg, flatB_lit]
    have := World.ownsRow_lit (base := base) (e := 54) (size := 15) (w1.alloc (.cells #[.int .i64 x, .int .i64 y, .int .i64 w, .int .i64 h] 139)) #[.int .i64 g.kind, .int .i64 g.sign, .int .i64 g.turn, .bool g.mir, .int .i64 g.state, .int .i64 g.mn, .int .i64 g.mx, .int .i64 0, .int .i64 0, .int .i64 0, .int .i64 0, .int .i64 0, .int .i64 0, .int .i64 0, .int .i64 0] 1 (by simp; omega) (by decide) rfl
    simpa using this
  · rw [flatR_lit]
    exact (World.ownsRow_lit w1 _ 1 hb (by decide) rfl).alloc _
theorem OutS.drew {W : World} {base : Nat} {l : List Nd} {v u : Value} {L : List Spot} (h : OutS W base l v u L) : OutS W.drew base l v u L := ⟨h.bx, h.rc⟩
theorem OutS.base_ {W : World} {B B' : Nat} {l : List Nd} {v u : Value} {L : List Spot} (h : OutS W B l v u L) (hb : B' ≤ B) : OutS W B' l v u L := ⟨own_down h.bx hb, own_down h.rc hb⟩
theorem OutS.nil (W : World) (base : Nat) (l : List Nd) : OutS W base l (.slice none 0 0) (.slice none 0 0) [] := ⟨World.ownsRow_nil _ _ _ _, World.ownsRow_nil _ _ _ _⟩
theorem oneB {L : List Bxv} {u : Value} (h : u ∈ flatB L) : u.oneCell' = true := by
  unfold flatB at h
  obtain ⟨n, _, h2⟩ := List.mem_flatMap.1 h
  unfold bxC at h2
  simp at h2
  rcases h2 with rfl | rfl | rfl | rfl | rfl | rfl | rfl | rfl | rfl | rfl | rfl | rfl | rfl | rfl | rfl <;> rfl
theorem oneR {L : List Spot} {u : Value} (h : u ∈ flatR L) : u.oneCell' = true := by
  unfold flatR at h
  obtain ⟨n, _, h2⟩ := List.mem_flatMap.1 h
  unfold rcC at h2
  simp at h2
  rcases h2 with rfl | rfl | rfl | rfl <;> rfl
def RcB (W : World) (b : Nat) (x y w h : Int) : Prop := W.heap[b]? = some (.cells #[.int .i64 x, .int .i64 y, .int .i64 w, .int .i64 h] 139 (0, 0))
structure RcC (W : World) (b : Nat) (x y w h : Int) : Prop where
  c0 : W.cell? ⟨b, 0, none⟩ = some (.int .i64 x)
  c1 : W.cell? ⟨b, 1, none⟩ = some (.int .i64 y)
  c2 : W.cell? ⟨b, 2, none⟩ = some (.int .i64 w)
  c3 : W.cell? ⟨b, 3, none⟩ = some (.int .i64 h)
  z0 : W.frozen? ⟨b, 0, none⟩ = false
  z1 : W.frozen? ⟨b, 1, none⟩ = false
  z2 : W.frozen? ⟨b, 2, none⟩ = false
  z3 : W.frozen? ⟨b, 3, none⟩ = false
theorem RcB.cells {W : World} {b : Nat} {x y w h : Int} (k : RcB W b x y w h) : RcC W b x y w h := by
  unfold RcB at k
  constructor <;> simp [World.cell?, World.frozen?, k]
theorem RcB.below {W W' : World} {b : Nat} {x y w h : Int} (k : RcB W b x y w h) (hb : Below W.heap.size W W') : RcB W' b x y w h := (hb.block b (lt_of_block k)).trans k
theorem RcB.set {W : World} {b : Nat} {x y w h x' y' w' h' : Int} (k : RcB W b x y w h) : RcB ((((W.setCell ⟨b, 0, none⟩ (.int .i64 x')).setCell ⟨b, 1, none⟩ (.int .i64 y')).setCell ⟨b, 2, none⟩ (.int .i64 w')).setCell ⟨b, 3, none⟩ (.int .i64 h')) b x' y' w' h' := by
  unfold RcB at k ⊢
  simp [World.setCell, k, Array.getElem?_modify] <;> rfl
structure KidW (kk : Int) (a : Bool) (bd sp x y w h : Int) (j : Nat) (po po' zw zh X Y W H : Int) : Prop where
  z1 : 0 ≤ zw ∧ zw ≤ 26400
  z2 : 0 ≤ zh ∧ zh ≤ 26400
  p0 : 0 ≤ po ∧ po ≤ 27000 * j
  n4 : kk = 4 → po = 0 ∧ po' = 0
  r4 : kk = 4 → j = 1 → X = x + w / 4 ∧ Y = y + h / 4 ∧ W = w / 2 ∧ H = h / 2
  r0 : kk = 4 → j ≠ 1 → X = x ∧ Y = y ∧ W = zw ∧ H = zh
  ra : kk ≠ 4 → a = true → (X = x + bd + po ∧ Y = y + bd + (h - 2 * bd - zh) / 2) ∧ (W = zw ∧ H = zh) ∧ 0 ≤ h - 2 * bd - zh ∧ po' = po + zw + sp
  rb : kk ≠ 4 → a = false → (X = x + bd + (w - 2 * bd - zw) / 2 ∧ Y = y + bd + po) ∧ (W = zw ∧ H = zh) ∧ 0 ≤ w - 2 * bd - zw ∧ po' = po + zh + sp
def PlcOk (P : Int) (ss : List Sg) (l : List Nd) (d wd : Int) (f i : Nat) : Prop := ∀ (x y wi h : Int) (A A2 : Option Addr) (c c2 : Nat) (w : World), (0 ≤ x ∧ x ≤ 10000000 * (i + 1)) → (0 ≤ y ∧ y ≤ 10000000 * (i + 1)) → (0 ≤ wi ∧ wi ≤ 26400) → (0 ≤ h ∧ h ≤ 26400) →
  (leafB (kd l i) = true ∨ (wi, h) = szN ss l (decide (d ≤ 2)) f i) → Sgs w w.heap.size A ss → Nds w w.heap.size A2 l →
  Calls Try.prog 83 #[.agg #[.int .i64 P, .slice A ss.length c], .agg #[.slice A2 l.length c2], .agg #[.int .i64 d, .int .i64 wd], .int .i64 i, .agg #[.int .i64 x, .int .i64 y, .int .i64 wi, .int .i64 h]] w fun e w' => ∃ v u, e = .returned (.tuple #[v, u]) ∧ OutS w' w.heap.size l v u (plS ss l (decide (d ≤ 2)) f i x y wi h) ∧ Below w.heap.size w w'
theorem Try.underBoxes' : Try.prog.underlying 35 = some (.slice 54) := by kernel_rfl
theorem Try.underRects : Try.prog.underlying 135 = some (.slice 139) := by kernel_rfl
theorem Try.infoRect : (Try.prog.info? 139).map (fun i => (i.zero, i.size, i.bytes)) = some (some (.agg #[.int .i64 0, .int .i64 0, .int .i64 0, .int .i64 0]), 4, 32) := by kernel_rfl
set_option maxRecDepth 100000 in
set_option maxHeartbeats 4000000 in
theorem plc_step (P : Int) (ss : List Sg) (l : List Nd) (d wd : Int) (hp : Pln P ss l) (hsl : ss.length ≤ 1000000) (hsv : ∀ s ∈ ss, s.vals.length ≤ 1000000) (f i : Nat) (hi : i < l.length) (hf : l.length ≤ f + 1 + i) (ih : ∀ k, i < k → k < l.length → PlcOk P ss l d wd f k) : PlcOk P ss l d wd (f + 1) i := by
  intro x y wi h A A2 c c2 w hx hy hwi hh hfit rs rn
  have hn : l.length ≤ 200 := hp.len
  have HKC := hid fun (W : World) (r : Nds W W.heap.size A2 l) => refKids_any l (i : Int) (by omega) (by omega) hp.val.good.deps (by omega) A2 c2 W r
  rw [rkids_eq hp.val.good.wf (by omega) (by omega)] at HKC
  have HSZ := hid fun (k : Nat) (hk : k < l.length) (hik : i < k) (W : World) (r1 : Sgs W W.heap.size A ss) (r2 : Nds W W.heap.size A2 l) => (show Calls Try.prog 65 #[.agg #[.int .i64 P, .slice A ss.length c], .agg #[.slice A2 l.length c2], .agg #[.int .i64 d, .int .i64 wd], .int .i64 k, .bool false] W fun e w' => e = .returned (.tuple #[.int .i64 (szN ss l (decide (d ≤ 2)) f k).1, .int .i64 (szN ss l (decide (d ≤ 2)) f k).2]) ∧ Below W.heap.size W w' from by
    have := rsize_any P ss l d wd hp hsl hsv f k hk (by omega) false A A2 c c2 W r1 r2
    rwa [rsz_false] at this)
  obtain ⟨b, o, rfl, hbB, hc⟩ := rn.at (by omega)
  have hxn := hc i hi
  have hkr := own_zero hi (hp.val.1 i hi)
  have h7 := hp.no7 i hi
  have hkd : kd l i = (nd l i).kind := by rw [nd_at hi, kd_at hi]
  have hdd : dep l i = (nd l i).depth := by rw [nd_at hi, dep_at hi]
  have hpl := fun (hl : leafB (kd l i) = true) => (show plS ss l (decide (d ≤ 2)) (f + 1) i x y wi h = [⟨i, x, y, wi, h⟩] from if_pos hl)
  have hpk := fun (hl : leafB (kd l i) = false) => (show plS ss l (decide (d ≤ 2)) (f + 1) i x y wi h = plJ ss l (decide (d ≤ 2)) f i x y wi h (kidsOf l (i : Int)).length ∧ (wi, h) = szN ss l (decide (d ≤ 2)) (f + 1) i from by
    have hs := hfit.resolve_left (by simp [hl])
    exact ⟨(plS_sz (by omega) hs).trans (plJ_end hp hi hl hs).symm, hs⟩)
  rw [← nd_at hi] at hxn
  have hkj := fun (hl : leafB (kd l i) = false) (j : Nat) (hj : j < (kidsOf l (i : Int)).length) => kid_ok (x := x) (y := y) hp hi hf hl (hfit.resolve_left (by simp [hl])) hj
  have hjl := fun (hl : leafB (kd l i) = false) (j : Nat) (hj : j ≤ (kidsOf l (i : Int)).length) => plJ_len (x := x) (y := y) hp hi hf hl (hfit.resolve_left (by simp [hl])) j hj
  have hpj := fun (j : Nat) (hj : j ≤ (kidsOf l (i : Int)).length) => posJ_bd (rows := decide (d ≤ 2)) hp hi hf j hj
  have hj0 := plJ_0 (ss := ss) (l := l) (rows := decide (d ≤ 2)) (f := f) (i := i) (x := x) (y := y) (w := wi) (h := h)
  have ho0 := posJ_0 (ss := ss) (l := l) (rows := decide (d ≤ 2)) (f := f) (i := i)
  have hbr := brd_kd (l := l) hi
  have hKW : leafB (kd l i) = false → ∀ (j : Nat) (hj : j < (kidsOf l (i : Int)).length), ∃ (k : Nat) (zw zh X Y W H : Int), (ints (nz (kidsOf l (i : Int))))[j]? = some (.int .i64 k) ∧ szN ss l (decide (d ≤ 2)) f k = (zw, zh) ∧ (leafB (kd l k) = true ∨ (W, H) = szN ss l (decide (d ≤ 2)) f k) ∧
      plJ ss l (decide (d ≤ 2)) f i x y wi h (j + 1) = plJ ss l (decide (d ≤ 2)) f i x y wi h j ++ plS ss l (decide (d ≤ 2)) f k X Y W H ∧ (plS ss l (decide (d ≤ 2)) f k X Y W H).length ≤ 200 ∧ (i < k ∧ k < l.length) ∧
      KidW (kd l i) (acr (decide (d ≤ 2)) (nd l i)) (brd (nd l i)) (spcOf (nd l i)) x y wi h j (posJ ss l (decide (d ≤ 2)) f i j) (posJ ss l (decide (d ≤ 2)) f i (j + 1)) zw zh X Y W H := fun hl j hj => by
    have hk := hkj hl j hj
    have e : (ints (nz (kidsOf l (i : Int))))[j]? = some (.int .i64 ((kidsOf l (i : Int))[j] : Nat)) := by unfold ints nz; simp [List.getElem?_eq_getElem hj]
    generalize (kidsOf l (i : Int))[j] = k at *
    refine ⟨k, _, _, _, _, _, _, e, rfl, hk.fit, hk.step, plS_len hp hk.kl (by have := hk.ik; omega), ⟨hk.ik, hk.kl⟩, ?_⟩
    have hn := hk.nxt; have i1 := hk.in1; have i2 := hk.in2
    refine ⟨⟨hk.q1, hk.q2⟩, ⟨hk.q3, hk.q4⟩, ⟨hk.pos0, hk.pos1⟩, fun h4 => ?_, fun h4 h5 => ?_, fun h4 h5 => ?_, fun h4 h5 => ?_, fun h4 h5 => ?_⟩
    · refine ⟨by unfold posJ; rw [if_pos h4], by rw [hn, if_pos h4]⟩
    · unfold recJ; rw [if_pos h4, if_pos h5]; exact ⟨rfl, rfl, rfl, rfl⟩
    · unfold recJ; rw [if_pos h4, if_neg h5]; exact ⟨rfl, rfl, rfl, rfl⟩
    · rw [hn, if_neg h4, if_pos h5]; unfold recJ; rw [if_neg h4, if_pos h5]; exact ⟨⟨rfl, rfl⟩, ⟨rfl, rfl⟩, i1 h4 h5, by omega⟩
    · rw [hn, if_neg h4, if_neg (by simp [h5])]; unfold recJ; rw [if_neg h4, if_neg (by simp [h5])]; exact ⟨⟨rfl, rfl⟩, ⟨rfl, rfl⟩, i2 h4 h5, by omega⟩
  have HPC := hid fun (k : Nat) (h1 : i < k) (h2 : k < l.length) => ih k h1 h2
  have hsp := spc_ok hp.val hi
  have hkl : (kidsOf l (i : Int)).length ≤ 200 := by rw [← rkids_eq hp.val.good.wf (by omega) (by omega)]; exact Nat.le_trans rkids_len hn
  have hnd : bareB l [⟨i, x, y, wi, h⟩] = [⟨nd l i, ⟨0, 0⟩, ⟨0, 0⟩, ⟨0, 0⟩, ⟨0, 0⟩⟩] := rfl
  clear hkj ih hfit hc hp hsv
  rw [hkd] at hkr h7 hpl hpk hjl hj0 hbr hKW
  rw [hdd] at hkr
  clear hkd hdd
  generalize plJ ss l (decide (d ≤ 2)) f i x y wi h = PJ at *
  generalize posJ ss l (decide (d ≤ 2)) f i = PO at *
  generalize plS ss l (decide (d ≤ 2)) (f + 1) i x y wi h = PS at *
  generalize brd (nd l i) = bd at *
  generalize nd l i = g at *
  obtain ⟨kk, dp, sg0, tn, mi, st, mn, mx⟩ := g
  simp only [] at hkr h7 hpl hpk hjl hj0 hbr hKW
  have HSP := hid fun (W : World) => spaceR_any kk dp sg0 tn mi st mn mx hkr.2.1.1 hkr.2.1.2 W
  have HAC := hid fun (W : World) => acrossR_any kk dp sg0 tn mi st mn mx d wd W
  generalize acr (decide (d ≤ 2)) ⟨kk, dp, sg0, tn, mi, st, mn, mx⟩ = a at *
  generalize spcOf ⟨kk, dp, sg0, tn, mi, st, mn, mx⟩ = sp at *
  obtain ⟨w1, hw1⟩ : ∃ w1, w1 = (((((w.alloc (.cells #[.int .i64 P, .slice A ss.length c] 24)).alloc (.cells #[.slice (some ⟨b, o, none⟩) l.length c2] 27)).alloc (.cells #[.int .i64 d, .int .i64 wd] 31)).alloc (.cells #[.int .i64 x, .int .i64 y, .int .i64 wi, .int .i64 h] 139)).alloc (.cells #[.int .i64 kk, .int .i64 dp, .int .i64 sg0, .int .i64 tn, .bool mi, .int .i64 st, .int .i64 mn, .int .i64 mx] 49)).alloc (.cells #[.int .i64 kk, .int .i64 sg0, .int .i64 tn, .bool mi, .int .i64 st, .int .i64 mn, .int .i64 mx, .int .i64 0, .int .i64 0, .int .i64 0, .int .i64 0, .int .i64 0, .int .i64 0, .int .i64 0, .int .i64 0] 54) := ⟨_, rfl⟩
  have hb1 : Below w.heap.size w w1 := by rw [hw1]; exact ((((((Below.refl _ _).alloc (Nat.le_refl _) _).alloc (by simp) _).alloc (by simp; omega) _).alloc (by simp; omega) _).alloc (by simp; omega) _).alloc (by simp; omega) _
  have hz1 : w1.heap.size = w.heap.size + 6 := by rw [hw1]; simp
  have hdoc : DocB w1 w.heap.size P (.slice A ss.length c) (.slice (some ⟨b, o, none⟩) l.length c2) d wd := by rw [hw1]; exact ⟨old_blk (old_blk (old_blk (old_blk (old_blk (nw_blk rfl))))), old_blk (old_blk (old_blk (old_blk (nw_blk (by simp))))), old_blk (old_blk (old_blk (nw_blk (by simp))))⟩
  have hrc : RcB w1 (w.heap.size + 3) x y wi h := by rw [hw1]; exact old_blk (old_blk (nw_blk (by simp)))
  have hng : w1.heap[w.heap.size + 4]? = some (.cells #[.int .i64 kk, .int .i64 dp, .int .i64 sg0, .int .i64 tn, .bool mi, .int .i64 st, .int .i64 mn, .int .i64 mx] 49 (0, 0)) := by rw [hw1]; exact old_blk (nw_blk (by simp))
  have hbx : BxB w1 (w.heap.size + 5) ⟨⟨kk, dp, sg0, tn, mi, st, mn, mx⟩, ⟨0, 0⟩, ⟨0, 0⟩, ⟨0, 0⟩, ⟨0, 0⟩⟩ := by rw [hw1]; exact nw_blk (by simp)
  have HC := hid fun (W : World) (k : Below w1.heap.size w1 W) => (show (DocC W w.heap.size (w.heap.size + 1) (w.heap.size + 2) P (.slice A ss.length c) (.slice (some ⟨b, o, none⟩) l.length c2) d wd ∧ RcB W (w.heap.size + 3) x y wi h ∧ BxB W (w.heap.size + 5) ⟨⟨kk, dp, sg0, tn, mi, st, mn, mx⟩, ⟨0, 0⟩, ⟨0, 0⟩, ⟨0, 0⟩, ⟨0, 0⟩⟩) ∧
    (((W.cell? ⟨w.heap.size + 4, 0, none⟩ = some (.int .i64 kk) ∧ W.cell? ⟨w.heap.size + 4, 1, none⟩ = some (.int .i64 dp)) ∧ W.cell? ⟨w.heap.size + 4, 2, none⟩ = some (.int .i64 sg0) ∧ W.cell? ⟨w.heap.size + 4, 3, none⟩ = some (.int .i64 tn)) ∧ (W.cell? ⟨w.heap.size + 4, 4, none⟩ = some (.bool mi) ∧ W.cell? ⟨w.heap.size + 4, 5, none⟩ = some (.int .i64 st)) ∧ W.cell? ⟨w.heap.size + 4, 6, none⟩ = some (.int .i64 mn) ∧ W.cell? ⟨w.heap.size + 4, 7, none⟩ = some (.int .i64 mx)) from by
    have e4 := (k.block _ (by omega)).trans hng
    refine ⟨⟨(hdoc.below k (by omega)).cells, (k.block _ (by omega)).trans hrc, (k.block _ (by omega)).trans hbx⟩, ⟨⟨?_, ?_⟩, ?_, ?_⟩, ⟨?_, ?_⟩, ?_, ?_⟩ <;> simp [World.cell?, e4])
  have HRN := hid fun (W : World) (k : Below w1.heap.size w1 W) => (show Nds W W.heap.size (some ⟨b, o, none⟩) l from Reads.more (rn.below (hb1.trans (k.mono hb1.size))) (Nat.le_trans hb1.size k.size))
  have HRS := hid fun (W : World) (k : Below w1.heap.size w1 W) => (show Sgs W W.heap.size A ss from (rs.below (hb1.trans (k.mono hb1.size))).more (Nat.le_trans hb1.size k.size))
  have hx3 := hxn.below ((((Below.refl w.heap.size w).alloc (Nat.le_refl _) (.cells #[.int .i64 P, .slice A ss.length c] 24)).alloc (by simp) (.cells #[.slice (some ⟨b, o, none⟩) l.length c2] 27)).alloc (by simp; omega) (.cells #[.int .i64 d, .int .i64 wd] 31) |>.alloc (by simp; omega) (.cells #[.int .i64 x, .int .i64 y, .int .i64 wi, .int .i64 h] 139)) hbB
  have d1 := hx3.kind; have d2 := hx3.depth; have d3 := hx3.sign; have d4 := hx3.turn; have d5 := hx3.mir; have d6 := hx3.state; have d7 := hx3.mn; have d8 := hx3.mx
  simp only [] at d1 d2 d3 d4 d5 d6 d7 d8
  have HLF := hid fun W : World => leaf_any kk W
  have HKC2 := hid fun (W : World) (k : Below w1.heap.size w1 W) => HKC.out W (HRN.out W k)
  have HS2 := hid fun (k : Nat) (hk : k < l.length) (hik : i < k) (W : World) (q : Below w1.heap.size w1 W) => HSZ.out k hk hik W (HRS.out W q) (HRN.out W q)
  have HP2 := hid fun (k : Nat) (h1 : i < k) (h2 : k < l.length) (X Y Wi H : Int) (b1 : 0 ≤ X ∧ X ≤ 10000000 * ((k : Int) + 1)) (b2 : 0 ≤ Y ∧ Y ≤ 10000000 * ((k : Int) + 1)) (b3 : 0 ≤ Wi ∧ Wi ≤ 26400) (b4 : 0 ≤ H ∧ H ≤ 26400) (b5 : leafB (kd l k) = true ∨ (Wi, H) = szN ss l (decide (d ≤ 2)) f k) (W : World) (q : Below w1.heap.size w1 W) => HPC.out k h1 h2 X Y Wi H A (some ⟨b, o, none⟩) c c2 W b1 b2 b3 b4 b5 (HRS.out W q) (HRN.out W q)
  clear HKC HSZ HPC HRS HRN hdoc hrc hng hbx rs rn hxn hx3
  have HPL := hid hpl; have HPK := hid hpk; have HKW := hid hKW; have HJL := hid hjl; have HPJ := hid hpj; have HJ0 := hid hj0; have HO0 := hid ho0; have HBR := hid hbr; have HND := hid hnd
  have HW1 := hid hw1; have HB1 := hid hb1; have HZ1 := hid hz1
  have q5 : (i : Int) < (l.length : Int) := by omega
  have hi2 : i < 200 := by omega
  clear hpl hpk hKW hjl hpj hj0 ho0 hbr hnd hw1 hb1 hkr h7 hf hi hbB
  generalize hnl : l.length = n at *
  generalize ss.length = N at *
  clear hnl
  go_enter Try.func83, Try.ntmps83
  go_upto_region 3 with (fail)
  simp only [Nat.add_assoc, Nat.reduceAdd]
  rw [← HW1.out]
  clear HW1 d1 d2 d3 d4 d5 d6 d7 d8
  obtain ⟨B0, hB0⟩ : ∃ B0, B0 = w.heap.size := ⟨_, rfl⟩
  obtain ⟨B1, hB1⟩ : ∃ B1, B1 = B0 + 1 := ⟨_, rfl⟩
  obtain ⟨B2, hB2⟩ : ∃ B2, B2 = B0 + 2 := ⟨_, rfl⟩
  obtain ⟨B3, hB3⟩ : ∃ B3, B3 = B0 + 3 := ⟨_, rfl⟩
  obtain ⟨B4, hB4⟩ : ∃ B4, B4 = B0 + 4 := ⟨_, rfl⟩
  obtain ⟨B5, hB5⟩ : ∃ B5, B5 = B0 + 5 := ⟨_, rfl⟩
  rw [← hB0] at HC
  rw [← hB1, ← hB2, ← hB3, ← hB4, ← hB5] at HC
  rw [← hB0]
  try rw [← hB1]
  try rw [← hB2]
  try rw [← hB3]
  try rw [← hB4]
  try rw [← hB5]
  have HBZ := hid (show w.heap.size ≤ w1.heap.size ∧ B5 < w1.heap.size from by omega)
  clear hB0 hB1 hB2 hB3 hB4 hB5 hz1
  obtain ⟨⟨_, hrc, hbx⟩, ⟨⟨n0, n1⟩, n2, n3⟩, ⟨n4, n5⟩, n6, n7⟩ := HC.out w1 (Below.refl _ _)
  cases hlb : leafB kk with
  | true =>
    have HX := hid (HPL.out hlb)
    have hc := hrc.cells
    have t0 := hc.c0; have t1 := hc.c1; have t2 := hc.c2; have t3 := hc.c3
    have hk := hbx.cells
    have k0 := hk.k0; have k1 := hk.k1; have k2 := hk.k2; have k3 := hk.k3; have k4 := hk.k4; have k5 := hk.k5; have k6 := hk.k6; have k7 := hk.k7; have k8 := hk.k8; have k9 := hk.k9; have k10 := hk.k10; have k11 := hk.k11; have k12 := hk.k12; have k13 := hk.k13; have k14 := hk.k14
    simp only [] at k0 k1 k2 k3 k4 k5 k6 k7 k8 k9 k10 k11 k12 k13 k14
    have t0' := cell_old (o := .cells #[.int .i64 kk, .int .i64 sg0, .int .i64 tn, .bool mi, .int .i64 st, .int .i64 mn, .int .i64 mx, .int .i64 0, .int .i64 0, .int .i64 0, .int .i64 0, .int .i64 0, .int .i64 0, .int .i64 0, .int .i64 0] 54) t0
    have t1' := cell_old (o := .cells #[.int .i64 kk, .int .i64 sg0, .int .i64 tn, .bool mi, .int .i64 st, .int .i64 mn, .int .i64 mx, .int .i64 0, .int .i64 0, .int .i64 0, .int .i64 0, .int .i64 0, .int .i64 0, .int .i64 0, .int .i64 0] 54) t1
    have t2' := cell_old (o := .cells #[.int .i64 kk, .int .i64 sg0, .int .i64 tn, .bool mi, .int .i64 st, .int .i64 mn, .int .i64 mx, .int .i64 0, .int .i64 0, .int .i64 0, .int .i64 0, .int .i64 0, .int .i64 0, .int .i64 0, .int .i64 0] 54) t2
    have t3' := cell_old (o := .cells #[.int .i64 kk, .int .i64 sg0, .int .i64 tn, .bool mi, .int .i64 st, .int .i64 mn, .int .i64 mx, .int .i64 0, .int .i64 0, .int .i64 0, .int .i64 0, .int .i64 0, .int .i64 0, .int .i64 0, .int .i64 0] 54) t3
    have k0' := cell_old (o := .cells #[.int .i64 x, .int .i64 y, .int .i64 wi, .int .i64 h] 139) k0
    have k1' := cell_old (o := .cells #[.int .i64 x, .int .i64 y, .int .i64 wi, .int .i64 h] 139) k1
    have k2' := cell_old (o := .cells #[.int .i64 x, .int .i64 y, .int .i64 wi, .int .i64 h] 139) k2
    have k3' := cell_old (o := .cells #[.int .i64 x, .int .i64 y, .int .i64 wi, .int .i64 h] 139) k3
    have k4' := cell_old (o := .cells #[.int .i64 x, .int .i64 y, .int .i64 wi, .int .i64 h] 139) k4
    have k5' := cell_old (o := .cells #[.int .i64 x, .int .i64 y, .int .i64 wi, .int .i64 h] 139) k5
    have k6' := cell_old (o := .cells #[.int .i64 x, .int .i64 y, .int .i64 wi, .int .i64 h] 139) k6
    have k7' := cell_old (o := .cells #[.int .i64 x, .int .i64 y, .int .i64 wi, .int .i64 h] 139) k7
    have k8' := cell_old (o := .cells #[.int .i64 x, .int .i64 y, .int .i64 wi, .int .i64 h] 139) k8
    have k9' := cell_old (o := .cells #[.int .i64 x, .int .i64 y, .int .i64 wi, .int .i64 h] 139) k9
    have k10' := cell_old (o := .cells #[.int .i64 x, .int .i64 y, .int .i64 wi, .int .i64 h] 139) k10
    have k11' := cell_old (o := .cells #[.int .i64 x, .int .i64 y, .int .i64 wi, .int .i64 h] 139) k11
    have k12' := cell_old (o := .cells #[.int .i64 x, .int .i64 y, .int .i64 wi, .int .i64 h] 139) k12
    have k13' := cell_old (o := .cells #[.int .i64 x, .int .i64 y, .int .i64 wi, .int .i64 h] 139) k13
    have k14' := cell_old (o := .cells #[.int .i64 x, .int .i64 y, .int .i64 wi, .int .i64 h] 139) k14
    clear hk hc hrc hbx HPK HKW HJL HPJ HJ0 HO0 HBR HSP HAC HKC2 HS2 HP2
    go_upto_region 4 with (first | (go_at_call 21; refine (HLF.out _).mono ?_; rintro e w2 ⟨rfl, rfl⟩))
    clear n0 n1 n2 n3 n4 n5 n6 n7
    go_region_law (fail)
    all_goals
      go_wp2_with fail
      go_ret2
      first
        | exact ⟨_, _, rfl, by rw [HX.out]; exact OutS.leafA HBZ.out.1 HND.out, (HB1.out.alloc HBZ.out.1 _).alloc (by have := HBZ.out.1; simp; omega) _⟩
        | exact ⟨_, _, rfl, by rw [HX.out]; exact OutS.leafB' HBZ.out.1 HND.out, (HB1.out.alloc HBZ.out.1 _).alloc (by have := HBZ.out.1; simp; omega) _⟩
        | (simp [Act.put]; exact ⟨_, _, ⟨rfl, rfl⟩, by rw [HX.out]; exact (OutS.leafA HBZ.out.1 HND.out).drew, ((HB1.out.alloc HBZ.out.1 _).alloc (by have := HBZ.out.1; simp; omega) _).drew⟩)
        | (simp [Act.put]; exact ⟨_, _, ⟨rfl, rfl⟩, by rw [HX.out]; exact (OutS.leafB' HBZ.out.1 HND.out).drew, ((HB1.out.alloc HBZ.out.1 _).alloc (by have := HBZ.out.1; simp; omega) _).drew⟩)
  | false =>
    obtain ⟨hpk1, hpk2⟩ := HPK.out hlb
    have HX := hid hpk1
    replace HKW := hid (HKW.out hlb); replace HJL := hid (HJL.out hlb)
    clear HPL HPK hpk1 hpk2
    have hc := hrc.cells
    have t0 := hc.c0; have t1 := hc.c1; have t2 := hc.c2; have t3 := hc.c3
    clear hc hrc hbx
    go_upto_region 8 with (first | (go_at_call 21; refine (HLF.out _).mono ?_; rintro e w2 ⟨rfl, rfl⟩))
    clear n0 n1 n2 n3 n4 n5 n6 n7 t0 t1 t2 t3
    obtain ⟨w2, hw2⟩ : ∃ w2, w2 = w1.alloc (.cells #[.int .i64 x, .int .i64 y, .int .i64 wi, .int .i64 h] 139) := ⟨_, rfl⟩
    obtain ⟨b16, hb16⟩ : ∃ b16, b16 = w1.heap.size := ⟨_, rfl⟩
    obtain ⟨B, hB⟩ : ∃ B, B = w2.heap.size := ⟨_, rfl⟩
    have hri : RcB w2 b16 x y wi h := by rw [hw2, hb16]; exact nw_blk rfl
    have hb2 : Below w1.heap.size w1 w2 := by rw [hw2]; exact (Below.refl _ _).alloc (Nat.le_refl _) _
    have hz2 : w2.heap.size = w1.heap.size + 1 := by rw [hw2]; simp
    have h16 : b16 < B ∧ w1.heap.size ≤ b16 ∧ w1.heap.size ≤ B := by omega
    rw [← hw2]
    try rw [← hb16]
    have HRI := hid hri; have HB2 := hid hb2; have H16 := hid h16; have HB := hid hB
    clear hw2 hb16 hB hri hb2 hz2 h16
    have k0 := (HC.out w2 HB2.out).2.1.1.1
    go_upto_if 55 with (fail)
    clear k0
    go_cut [14, 15, 55] (fun v u s5 wx => Hid (OutS wx B l v u (PJ 0)) ∧ Hid (RcB wx b16 (x + bd) (y + bd) (wi - 2 * bd) (h - 2 * bd)) ∧ Hid (Below w1.heap.size w1 wx) ∧ Hid (B ≤ wx.heap.size))
    case first =>
      by_cases h5 : kk = 5
      · have hbd : bd = 12 := by rw [HBR.out, if_pos h5]
        have hpj : PJ 0 = [⟨i, x, y, wi, h⟩] := by rw [HJ0.out, if_pos h5]
        have e5 : (kk == 5) = true := by simp [h5]
        have HPJ0 := hid hpj; have HBD := hid hbd
        obtain ⟨_, hrc, hbx⟩ := (HC.out w2 HB2.out).1
        have HBX := hid hbx
        have HOF := hid fun (W : World) (k : Below w1.heap.size w1 W) => (HC.out W k).1.2.1.cells
        have y1 : IntKind.i64.wrap (x + 12) = x + 12 := wrapI (by omega) (by omega)
        have y2 : IntKind.i64.wrap (y + 12) = y + 12 := wrapI (by omega) (by omega)
        have y3 : IntKind.i64.wrap (wi - 24) = wi - 24 := wrapI (by omega) (by omega)
        have y4 : IntKind.i64.wrap (h - 24) = h - 24 := wrapI (by omega) (by omega)
        have HR16 := hid HRI.out.cells
        subst h5
        clear hbd hpj hrc hbx
        go_upto_region 10 with (first | (refine wp_load_box rfl (.tmp 13) rfl B5 _ rfl HBX.out ?_) | (at_builtin; go_loud (refine app_elemF rfl (.tmp 56) (.tmp 58) Try.underBoxes' Try.infoBox rfl (by decide) (by decide) rfl B _ 0 [] rfl (World.ownsRow_nil _ _ _ _) ⟨w2.heap.size, 0, none⟩ [.int .i64 5, .int .i64 sg0, .int .i64 tn, .bool mi, .int .i64 st, .int .i64 mn, .int .i64 mx, .int .i64 0, .int .i64 0, .int .i64 0, .int .i64 0, .int .i64 0, .int .i64 0, .int .i64 0, .int .i64 0] rfl rfl (fun q u h => by rw [Addr.add_lit]; exact cell_here rfl (by simpa using h)) (fun u hu => by simp at hu; rcases hu with rfl | rfl | rfl | rfl | rfl | rfl | rfl | rfl | rfl | rfl | rfl | rfl | rfl | rfl | rfl <;> rfl) (by omega) (by have := HB.out; simp; omega) ?_); intro v6 w6 ho6 hg6 hf6; have HO6 := hid ho6; have HG6 := hid hg6; clear ho6 hg6 hf6))
        have hb26 : Below w2.heap.size w2 w6 := below_app (B' := w2.heap.size) ((Below.refl w2.heap.size w2).alloc (Nat.le_refl _) _) (World.ownsRow_nil _ _ 54 15) HG6.out (Nat.le_refl _) (by simp)
        have HB6 := hid (bnext0 HB2.out hb26)
        have hc6 := HOF.out w6 HB6.out
        have t0 := hc6.c0; have t1 := hc6.c1; have t2 := hc6.c2; have t3 := hc6.c3
        have HRI6 := hid (HRI.out.below hb26)
        have HS6 := hid hb26.size
        clear hb26 hc6 HBX
        go_upto_region 11 with (at_builtin; go_loud (refine app_elemF rfl (.tmp 60) (.tmp 62) Try.underRects Try.infoRect rfl (by decide) (by decide) rfl B _ 0 [] rfl (World.ownsRow_nil _ _ _ _) ⟨w6.heap.size, 0, none⟩ [.int .i64 x, .int .i64 y, .int .i64 wi, .int .i64 h] rfl rfl (fun q u h => by rw [Addr.add_lit]; exact cell_here rfl (by simpa using h)) (fun u hu => by simp at hu; rcases hu with rfl | rfl | rfl | rfl <;> rfl) (by omega) (by have := HB.out; have := HS6.out; simp; omega) ?_); intro v7 w7 ho7 hg7 hf7; have HO7 := hid ho7; have HG7 := hid hg7; clear ho7 hg7 hf7 t0 t1 t2 t3)
        have hb67 : Below w6.heap.size w6 w7 := below_app (B' := w6.heap.size) ((Below.refl w6.heap.size w6).alloc (Nat.le_refl _) _) (World.ownsRow_nil _ _ 139 4) HG7.out (Nat.le_refl _) (by simp)
        have HB7 := hid (bnext0 HB6.out hb67)
        have hc7 := HOF.out w7 HB7.out
        have t0 := hc7.c0; have t1 := hc7.c1; have t2 := hc7.c2; have t3 := hc7.c3
        have HRI7 := hid (HRI6.out.below hb67)
        have hc8 := HRI7.out.cells
        have f0 := hc8.z0; have f1 := hc8.z1; have f2 := hc8.z2; have f3 := hc8.z3
        have g0 := hc8.c0; have g1 := hc8.c1; have g2 := hc8.c2; have g3 := hc8.c3
        have HO6' := hid (own_keep HO6.out hb67)
        have HS7 := hid hb67.size
        clear hb67 hc7 hc8 HO6 HG6 HG7 HRI6 HRI HR16
        obtain ⟨A6, c6, rfl⟩ := own_slice HO6'.out
        obtain ⟨A7, c7, rfl⟩ := own_slice HO7.out
        go_wp2_with fail
        go_meet
        exact ⟨hid (by rw [HPJ0.out]; exact ⟨own_far (own_far (own_far (own_far (by rw [HND.out, flatB_lit]; exact HO6'.out) H16.out.1) H16.out.1) H16.out.1) H16.out.1, own_far (own_far (own_far (own_far (by rw [flatR_lit]; exact HO7.out) H16.out.1) H16.out.1) H16.out.1) H16.out.1⟩), hid (by rw [HBD.out, show (2 : Int) * 12 = 24 from rfl]; exact RcB.set HRI7.out), hid ((((HB7.out.setCell H16.out.2.1 _).setCell H16.out.2.1 _).setCell H16.out.2.1 _).setCell H16.out.2.1 _), hid (by have := HB.out; have := HS6.out; have := HS7.out; simp [World.setCell]; omega)⟩
      · have hbd : bd = 0 := by rw [HBR.out, if_neg h5]
        have hpj : PJ 0 = [] := by rw [HJ0.out, if_neg h5]
        have e5 : (kk == 5) = false := by simp [h5]
        have HPJ0 := hid hpj; have HBD := hid hbd
        clear hbd hpj
        go_wp2_with fail
        go_meet
        exact ⟨hid (by rw [HPJ0.out]; exact OutS.nil _ _ _), hid (by rw [HBD.out, Int.mul_zero, Int.add_zero, Int.add_zero, Int.sub_zero, Int.sub_zero]; exact HRI.out), HB2, hid (Nat.le_of_eq HB.out)⟩
    obtain ⟨hO5, hRI5, hB5, hS5⟩ := hcut
    obtain ⟨w5, hw5⟩ : ∃ W, W = wc := ⟨_, rfl⟩
    rw [← hw5] at hO5 hRI5 hB5 hS5
    rw [← hw5]
    clear hw5
    obtain ⟨⟨hdc, _, _⟩, _⟩ := HC.out w5 hB5.out
    have p2 := hdc.c2
    have HKD := hid (HKC2.out w5 hB5.out)
    clear hdc HRI HKC2
    go_upto_region 13 with (first | (go_at_call 66; refine HKD.out.mono ?_; rintro e w6 ⟨v6, rfl, ho6, hb6⟩; obtain ⟨A6, c6, rfl⟩ := own_slice ho6; have HO6 := hid ho6; have HX6 := hid hb6; clear ho6 hb6 p2))
    have HBA := hid (bnext0 hB5.out HX6.out)
    have HOA := hid (OutS.below hO5.out HX6.out)
    have HRA := hid (RcB.below hRI5.out HX6.out)
    have HSA := hid (show B ≤ w6.heap.size from Nat.le_trans hS5.out HX6.out.size)
    have HKA := hid (own_down HO6.out hS5.out)
    clear HO6 HX6 hO5 hRI5 hB5 hS5 HKD
    obtain ⟨m, hm⟩ : ∃ m, m = (kidsOf l (i : Int)).length := ⟨_, rfl⟩
    rw [← hm] at hkl HKW HJL HPJ HX HKA
    rw [← hm]
    clear hm
    generalize ints (nz (kidsOf l (i : Int))) = KV at *
    have HCB := hid fun (W : World) (k : Below B w6 W) => (show Below w1.heap.size w1 W from HBA.out.trans (k.mono H16.out.2.2))
    have HRW := hid fun (W : World) (k : Below B w6 W) => (show RcB W b16 (x + bd) (y + bd) (wi - 2 * bd) (h - 2 * bd) from (k.block b16 H16.out.1).trans HRA.out)
    have hbd0 : 0 ≤ bd ∧ bd ≤ 12 := by rw [HBR.out]; split <;> omega
    go_wp2_with fail
    go_loopw [14, 15, 18, 19] (fun v u po jv wr => ∃ j : Nat, j ≤ m ∧ jv = .int .i64 j ∧ po = .int .i64 (PO j) ∧ Hid (OutS wr B l v u (PJ j)) ∧ Hid (wr.ownsRow B 3 1 (.slice A6 m c6) m KV) ∧ Hid (Below B w6 wr) ∧ Hid (B ≤ wr.heap.size)) (fun _ _ _ jv _ => m - (intOf jv).toNat)
    case atStart => exact ⟨0, by omega, rfl, by rw [HO0.out], HOA, HKA, hid (Below.refl _ _), HSA⟩
    case round =>
      obtain ⟨j, hj, rfl, rfl, hO, hK, hB', hSz⟩ := hrel
      by_cases hjm : j < m
      · obtain ⟨k, zw, zh, X, Y, W, H, hks, hzs, hfit, hstep, hlen, ⟨hik, hkl2⟩, hkw⟩ := HKW.out j hjm
        have hjl := HJL.out j hj
        have HBR' := hid (HCB.out wr hB'.out)
        obtain ⟨b7, o7, hA6, hb7, hc7⟩ := Reads.at0 (Reads.of_own hK.out) (by omega) (by have := (Reads.of_own hK.out).1; omega)
        subst hA6
        have HKV := hid (hc7 j _ hks)
        have HK7 := hid hb7
        have q0 : (j : Int) < (m : Int) := by omega
        have HBZ2 := hid fun z : BW wr.heap.size wr => (show Below w1.heap.size w1 z.val from HBR'.out.trans (z.ok.mono HBR'.out.size))
        have hsz := fun z : BW wr.heap.size wr => HS2.out k hkl2 hik z.val (HBZ2.out z)
        rw [hzs] at hsz
        have HZ := hid (below_class (wb := wr) (Nat.le_refl wr.heap.size) hsz)
        have cz := fun z : BW wr.heap.size wr => (HC.out z.val (HBZ2.out z)).1.1
        have hkz := fun z : BW wr.heap.size wr => (z.ok.cell (p := ⟨b7, o7 + j, none⟩) hb7).trans HKV.out
        have j0 := fun z => (cz z).c0; have j1 := fun z => (cz z).c1; have j2 := fun z => (cz z).c2; have j3 := fun z => (cz z).c3; have j4 := fun z => (cz z).c4
        have HPC := hid fun (a1 : 0 ≤ X ∧ X ≤ 10000000 * ((k : Int) + 1)) (a2 : 0 ≤ Y ∧ Y ≤ 10000000 * ((k : Int) + 1)) (a3 : 0 ≤ W ∧ W ≤ 26400) (a4 : 0 ≤ H ∧ H ≤ 26400) (U : World) (q : Below w1.heap.size w1 U) => HP2.out k hik hkl2 X Y W H a1 a2 a3 a4 hfit U q
        have HST := hid hstep; have HKW2 := hid hkw
        generalize plS ss l (decide (d ≤ 2)) f k X Y W H = S at HPC HST hlen
        have hbb : ((0 ≤ X ∧ X ≤ 10000000 * ((k : Int) + 1)) ∧ 0 ≤ Y ∧ Y ≤ 10000000 * ((k : Int) + 1)) ∧ (0 ≤ W ∧ W ≤ 26400) ∧ 0 ≤ H ∧ H ≤ 26400 := by
          have z1 := hkw.z1; have z2 := hkw.z2; have z3 := hkw.p0
          have e1 : (27000 : Int) * j ≤ 5400000 := by omega
          have e2 : (10000000 : Int) * ((i : Int) + 1) + 10000000 ≤ 10000000 * ((k : Int) + 1) := by omega
          by_cases h4 : kk = 4
          · by_cases h1 : j = 1
            · obtain ⟨r1, r2, r3, r4⟩ := hkw.r4 h4 h1
              omega
            · obtain ⟨r1, r2, r3, r4⟩ := hkw.r0 h4 h1
              omega
          · cases a with
            | true =>
              obtain ⟨⟨r1, r2⟩, ⟨r3, r4⟩, r5, r6⟩ := hkw.ra h4 rfl
              omega
            | false =>
              obtain ⟨⟨r1, r2⟩, ⟨r3, r4⟩, r5, r6⟩ := hkw.rb h4 rfl
              omega
        have HPD := hid (HPC.out hbb.1.1 hbb.1.2 hbb.2.1 hbb.2.2)
        have z1 := hkw.z1; have z2 := hkw.z2; have z3 := hkw.p0
        have z4 : (27000 : Int) * j ≤ 5400000 := by omega
        clear cz hc7 hks hb7 hsz hzs hfit hstep hkw HPC hbb
        go_upto_region 17 with (fail)
        refine region_below (by kernel_rfl) (by kernel_rfl) (Below.refl wr.heap.size wr) ?_
        repeat (go_big_quiet_step (first | (go_at_call 65; with_reducible exact (HZ.out _))))
        refine wpQuiet_nil ?_
        intro _ hw'
        obtain ⟨y7, rfl⟩ := hw'
        clear j0 j1 j2 j3 j4 hkz HZ
        obtain ⟨w7, hw7⟩ : ∃ W, W = y7.val := ⟨_, rfl⟩
        have HX7 := hid (show Below wr.heap.size wr w7 by rw [hw7]; exact y7.ok)
        rw [← hw7]
        clear hw7 HBZ2
        have HB7 := hid (show Below B w6 w7 from hB'.out.trans (HX7.out.mono hSz.out))
        have hr7 := (HRW.out w7 HB7.out).cells
        have t0 := hr7.c0; have t1 := hr7.c1
        go_upto_block 2 with (fail)
        obtain ⟨w8, hw8⟩ : ∃ w8, w8 = w7.alloc (.cells #[.int .i64 (x + bd), .int .i64 (y + bd), .int .i64 zw, .int .i64 zh] 139) := ⟨_, rfl⟩
        obtain ⟨b22, hb22⟩ : ∃ b22, b22 = w7.heap.size := ⟨_, rfl⟩
        have hk8 : RcB w8 b22 (x + bd) (y + bd) zw zh := by rw [hw8, hb22]; exact nw_blk rfl
        have HX8 := hid (show Below w7.heap.size w7 w8 by rw [hw8]; exact (Below.refl _ _).alloc (Nat.le_refl _) _)
        have HB8 := hid (HB7.out.trans (HX8.out.mono (Nat.le_trans hSz.out HX7.out.size)))
        have h22 : w7.heap.size ≤ b22 := by omega
        rw [← hw8]
        try rw [← hb22]
        have HK8 := hid hk8; have H22 := hid h22
        clear hw8 hb22 hk8 h22 t0 t1 hr7
        have hr8 := (HRW.out w8 HB8.out).cells
        have t0 := hr8.c0; have t1 := hr8.c1; have t2 := hr8.c2; have t3 := hr8.c3
        have hc22 := HK8.out.cells
        have f0 := hc22.z0; have f1 := hc22.z1; have f2 := hc22.z2; have f3 := hc22.z3
        have g0 := hc22.c0; have g1 := hc22.c1; have g2 := hc22.c2; have g3 := hc22.c3
        have hc8 := HC.out w8 (HCB.out w8 HB8.out)
        have k0 := hc8.2.1.1.1
        clear hr8 hc22 hc8
        obtain ⟨po1, hpo1⟩ : ∃ q, q = PO (j + 1) := ⟨_, rfl⟩
        have HPO := hid hpo1
        obtain ⟨po, hpo⟩ : ∃ q, q = PO j := ⟨_, rfl⟩
        have HPO0 := hid hpo
        have hkw := HKW2.out
        rw [← hpo1, ← hpo] at hkw
        rw [← hpo] at z3
        rw [← hpo]
        replace HKW2 := hid hkw
        clear hpo1 hpo hkw
        go_cut [18] (fun s18 wx => (∃ q : Int, s18 = .int .i64 q ∧ Hid (q = po1)) ∧ Hid (RcB wx b22 X Y W H) ∧ Hid (Below w7.heap.size w7 wx))
        case first =>
          have z5 := hbd0; have z6 := HBR.out; have z7 := HKW2.out
          by_cases h4 : kk = 4
          · obtain ⟨n4, n5⟩ := z7.n4 h4
            have e4 : (kk == 4) = true := by simp [h4]
            have hbd : bd = 0 := by rw [z6, if_neg (by omega)]
            by_cases h1 : j = 1
            · obtain ⟨r1, r2, r3, r4⟩ := z7.r4 h4 h1
              have e1 : ((j : Int) == 1) = true := by simp [h1]
              have HPE := hid (show po = po1 from by omega)
              have HRE := hid fun (U : World) (k : RcB U b22 (x + wi / 4) (y + h / 4) (wi / 2) (h / 2)) => (show RcB U b22 X Y W H from by rw [r1, r2, r3, r4]; exact k)
              rw [hbd, Int.mul_zero] at t2 t3
              rw [hbd] at t0 t1
              rw [Int.add_zero] at t0 t1
              rw [Int.sub_zero] at t2 t3
              have y1 : IntKind.i64.wrap (x + wi / 4) = x + wi / 4 := wrapI (by omega) (by omega)
              have y2 : IntKind.i64.wrap (y + h / 4) = y + h / 4 := wrapI (by omega) (by omega)
              clear r1 r2 r3 r4 n4 n5 z7 z6 hbd
              go_wp2_with fail
              go_meet
              exact ⟨⟨po, rfl, HPE⟩, HRE.out _ (RcB.set HK8.out), hid ((((HX8.out.setCell H22.out _).setCell H22.out _).setCell H22.out _).setCell H22.out _)⟩
            · obtain ⟨r1, r2, r3, r4⟩ := z7.r0 h4 h1
              have e1 : ((j : Int) == 1) = false := by simp; omega
              have HPE := hid (show po = po1 from by omega)
              have HRE := hid (show RcB w8 b22 X Y W H from by rw [r1, r2, r3, r4]; have := HK8.out; rwa [hbd, Int.add_zero, Int.add_zero] at this)
              clear r1 r2 r3 r4 n4 n5 z7 z6 hbd
              go_wp2_with fail
              go_meet
              exact ⟨⟨po, rfl, HPE⟩, HRE, HX8⟩
          · have e4 : (kk == 4) = false := by simp [h4]
            have HC8 := hid fun (U : World) (k : Below w8.heap.size w8 U) => (show Below w1.heap.size w1 U from (HCB.out w8 HB8.out).trans (k.mono (HCB.out w8 HB8.out).size))
            obtain ⟨⟨hd8, _, _⟩, ⟨⟨m0, m1⟩, m2, m3⟩, ⟨m4, m5⟩, m6, m7⟩ := HC.out w8 (HCB.out w8 HB8.out)
            have v3 := hd8.c3; have v4 := hd8.c4
            cases a with
            | true =>
              obtain ⟨⟨r1, r2⟩, ⟨r3, r4⟩, r5, r6⟩ := z7.ra h4 rfl
              have HPE := hid (show po + zw + sp = po1 from by omega)
              have HRE := hid fun (U : World) (k : RcB U b22 (x + bd + po) (y + bd + (h - 2 * bd - zh) / 2) zw zh) => (show RcB U b22 X Y W H from by rw [r1, r2, r3, r4]; exact k)
              obtain ⟨dl, hdl⟩ : ∃ dl, dl = h - 2 * bd := ⟨_, rfl⟩
              rw [← hdl] at r5 HRE
              have dl1 : dl ≤ 26400 := by omega
              have HRW2 := hid fun (U : World) (k : Below B w6 U) => (show RcC U b16 (x + bd) (y + bd) (wi - 2 * bd) (dl) from by have := (HRW.out U k).cells; rwa [← hdl] at this)
              have y1 : IntKind.i64.wrap (x + bd + po) = x + bd + po := wrapI (by omega) (by omega)
              have y2 : IntKind.i64.wrap (dl - zh) = dl - zh := wrapI (by omega) (by omega)
              have y3 : IntKind.i64.wrap (y + bd + (dl - zh) / 2) = y + bd + (dl - zh) / 2 := wrapI (by omega) (by omega)
              have y4 : IntKind.i64.wrap (po + zw) = po + zw := wrapI (by omega) (by omega)
              have y5 : IntKind.i64.wrap (po + zw + sp) = po + zw + sp := wrapI (by omega) (by omega)
              clear r1 r2 r3 r4 r6 z7 z6 hdl t0 t1 t2 t3 f0 f1 f2 f3 g0 g1 g2 g3
              go_upto_if 156 with (first | (go_at_call 101; refine (HAC.out _).mono ?_; rintro e w9 ⟨rfl, hb9⟩; have HX9 := hid hb9; clear hb9))
              have HB9 := hid (show Below B w6 w9 from HB8.out.trans (HX9.out.mono (Nat.le_trans HSA.out HB8.out.size)))
              have hr9 := HRW2.out w9 HB9.out
              have t0 := hr9.c0; have t1 := hr9.c1; have t2 := hr9.c2; have t3 := hr9.c3
              have HK9 := hid (HK8.out.below HX9.out)
              have hk9 := HK9.out.cells
              have f0 := hk9.z0; have f1 := hk9.z1; have f2 := hk9.z2; have f3 := hk9.z3
              have g0 := hk9.c0; have g1 := hk9.c1; have g2 := hk9.c2; have g3 := hk9.c3
              clear hr9 hk9 k0 m0 m1 m2 m3 m4 m5 m6 m7 v3 v4
              go_upto_region 26 with (fail)
              clear t0 t1 t2 t3 f0 f1 f2 f3 g0 g1 g2 g3
              obtain ⟨w10, hw10⟩ : ∃ w10, w10 = (((w9.setCell ⟨b22, 0, none⟩ (.int .i64 (x + bd + po))).setCell ⟨b22, 1, none⟩ (.int .i64 (y + bd + (dl - zh) / 2))).setCell ⟨b22, 2, none⟩ (.int .i64 zw)).setCell ⟨b22, 3, none⟩ (.int .i64 zh) := ⟨_, rfl⟩
              have hk10 : RcB w10 b22 X Y W H := by rw [hw10]; exact HRE.out _ (RcB.set HK9.out)
              have hb10 : Below w7.heap.size w7 w10 := by rw [hw10]; exact ((((HX8.out.trans (HX9.out.mono HX8.out.size)).setCell H22.out _).setCell H22.out _).setCell H22.out _).setCell H22.out _
              rw [← hw10]
              have HK10 := hid hk10; have HB10 := hid hb10
              clear hw10 hk10 hb10 HK9 HX9 HB9
              obtain ⟨_, ⟨⟨m0, m1⟩, m2, m3⟩, ⟨m4, m5⟩, m6, m7⟩ := HC.out w10 ((HCB.out w7 HB7.out).trans (HB10.out.mono (HCB.out w7 HB7.out).size))
              go_wp2_with (first | (go_at_call 100; refine (HSP.out _).mono ?_; rintro e w11 ⟨rfl, hb11⟩; have HX11 := hid hb11; clear hb11))
              go_meet
              exact ⟨⟨po + zw + sp, rfl, HPE⟩, HK10.out.below HX11.out, hid (bnext0 HB10.out HX11.out)⟩
            | false =>
              obtain ⟨⟨r1, r2⟩, ⟨r3, r4⟩, r5, r6⟩ := z7.rb h4 rfl
              have HPE := hid (show po + zh + sp = po1 from by omega)
              have HRE := hid fun (U : World) (k : RcB U b22 (x + bd + (wi - 2 * bd - zw) / 2) (y + bd + po) zw zh) => (show RcB U b22 X Y W H from by rw [r1, r2, r3, r4]; exact k)
              obtain ⟨dl, hdl⟩ : ∃ dl, dl = wi - 2 * bd := ⟨_, rfl⟩
              rw [← hdl] at r5 HRE
              have dl1 : dl ≤ 26400 := by omega
              have HRW2 := hid fun (U : World) (k : Below B w6 U) => (show RcC U b16 (x + bd) (y + bd) (dl) (h - 2 * bd) from by have := (HRW.out U k).cells; rwa [← hdl] at this)
              have y1 : IntKind.i64.wrap (y + bd + po) = y + bd + po := wrapI (by omega) (by omega)
              have y2 : IntKind.i64.wrap (dl - zw) = dl - zw := wrapI (by omega) (by omega)
              have y3 : IntKind.i64.wrap (x + bd + (dl - zw) / 2) = x + bd + (dl - zw) / 2 := wrapI (by omega) (by omega)
              have y4 : IntKind.i64.wrap (po + zh) = po + zh := wrapI (by omega) (by omega)
              have y5 : IntKind.i64.wrap (po + zh + sp) = po + zh + sp := wrapI (by omega) (by omega)
              clear r1 r2 r3 r4 r6 z7 z6 hdl t0 t1 t2 t3 f0 f1 f2 f3 g0 g1 g2 g3
              go_upto_if 156 with (first | (go_at_call 101; refine (HAC.out _).mono ?_; rintro e w9 ⟨rfl, hb9⟩; have HX9 := hid hb9; clear hb9))
              have HB9 := hid (show Below B w6 w9 from HB8.out.trans (HX9.out.mono (Nat.le_trans HSA.out HB8.out.size)))
              have hr9 := HRW2.out w9 HB9.out
              have t0 := hr9.c0; have t1 := hr9.c1; have t2 := hr9.c2; have t3 := hr9.c3
              have HK9 := hid (HK8.out.below HX9.out)
              have hk9 := HK9.out.cells
              have f0 := hk9.z0; have f1 := hk9.z1; have f2 := hk9.z2; have f3 := hk9.z3
              have g0 := hk9.c0; have g1 := hk9.c1; have g2 := hk9.c2; have g3 := hk9.c3
              clear hr9 hk9 k0 m0 m1 m2 m3 m4 m5 m6 m7 v3 v4
              go_upto_region 20 with (fail)
              clear t0 t1 t2 t3 f0 f1 f2 f3 g0 g1 g2 g3
              obtain ⟨w10, hw10⟩ : ∃ w10, w10 = (((w9.setCell ⟨b22, 0, none⟩ (.int .i64 (x + bd + (dl - zw) / 2))).setCell ⟨b22, 1, none⟩ (.int .i64 (y + bd + po))).setCell ⟨b22, 2, none⟩ (.int .i64 zw)).setCell ⟨b22, 3, none⟩ (.int .i64 zh) := ⟨_, rfl⟩
              have hk10 : RcB w10 b22 X Y W H := by rw [hw10]; exact HRE.out _ (RcB.set HK9.out)
              have hb10 : Below w7.heap.size w7 w10 := by rw [hw10]; exact ((((HX8.out.trans (HX9.out.mono HX8.out.size)).setCell H22.out _).setCell H22.out _).setCell H22.out _).setCell H22.out _
              rw [← hw10]
              have HK10 := hid hk10; have HB10 := hid hb10
              clear hw10 hk10 hb10 HK9 HX9 HB9
              obtain ⟨_, ⟨⟨m0, m1⟩, m2, m3⟩, ⟨m4, m5⟩, m6, m7⟩ := HC.out w10 ((HCB.out w7 HB7.out).trans (HB10.out.mono (HCB.out w7 HB7.out).size))
              go_wp2_with (first | (go_at_call 100; refine (HSP.out _).mono ?_; rintro e w11 ⟨rfl, hb11⟩; have HX11 := hid hb11; clear hb11))
              go_meet
              exact ⟨⟨po + zh + sp, rfl, HPE⟩, HK10.out.below HX11.out, hid (bnext0 HB10.out HX11.out)⟩
        obtain ⟨⟨q, rfl, hq⟩, hK9, hX9⟩ := hcut
        obtain ⟨w9, hw9⟩ : ∃ W, W = wc := ⟨_, rfl⟩
        rw [← hw9] at hK9 hX9
        rw [← hw9]
        clear hw9 t0 t1 t2 t3 f0 f1 f2 f3 g0 g1 g2 g3 k0 HK8 HX8 HB8 H22 z1 z2 z3 z4
        have HWR := hid (bnext0 HX7.out hX9.out)
        have HB9 := hid (show Below B w6 w9 from hB'.out.trans (HWR.out.mono hSz.out))
        have hq2 := hq.out
        rw [HPO.out] at hq2
        have HQ := hid hq2
        clear hq hq2 HPO HPO0 HKW2
        have HSV := hid fun (U : World) (u : Below w9.heap.size w9 U) => (show ((U.cell? ⟨B0, 0, none⟩ = some (.int .i64 P) ∧ U.cell? ⟨B0, 1, none⟩ = some (.slice A N c)) ∧ U.cell? ⟨B1, 0, none⟩ = some (.slice (some ⟨b, o, none⟩) n c2) ∧ U.cell? ⟨B2, 0, none⟩ = some (.int .i64 d) ∧ U.cell? ⟨B2, 1, none⟩ = some (.int .i64 wd)) ∧ U.cell? ⟨b7, o7 + j, none⟩ = some (.int .i64 k) ∧ (U.cell? ⟨b22, 0, none⟩ = some (.int .i64 X) ∧ U.cell? ⟨b22, 1, none⟩ = some (.int .i64 Y)) ∧ U.cell? ⟨b22, 2, none⟩ = some (.int .i64 W) ∧ U.cell? ⟨b22, 3, none⟩ = some (.int .i64 H) from by
          have cz := (HC.out U (HCB.out U (HB9.out.trans (u.mono (Nat.le_trans HSA.out HB9.out.size))))).1.1
          have ck := (hK9.out.below u).cells
          exact ⟨⟨⟨cz.c0, cz.c1⟩, cz.c2, cz.c3, cz.c4⟩, ((bnext0 HWR.out u).cell (p := ⟨b7, o7 + j, none⟩) HK7.out).trans HKV.out, ⟨ck.c0, ck.c1⟩, ck.c2, ck.c3⟩)
        have HPE := hid fun (U : World) (u : Below w9.heap.size w9 U) => HPD.out U (HCB.out U (HB9.out.trans (u.mono (Nat.le_trans HSA.out HB9.out.size))))
        clear HPD HKV HK7 HB9
        go_upto_region 27 with (fail)
        go_region_held3 (fun U => ((U.cell? ⟨B0, 0, none⟩ = some (.int .i64 P) ∧ U.cell? ⟨B0, 1, none⟩ = some (.slice A N c)) ∧ U.cell? ⟨B1, 0, none⟩ = some (.slice (some ⟨b, o, none⟩) n c2) ∧ U.cell? ⟨B2, 0, none⟩ = some (.int .i64 d) ∧ U.cell? ⟨B2, 1, none⟩ = some (.int .i64 wd)) ∧ U.cell? ⟨b7, o7 + j, none⟩ = some (.int .i64 k) ∧ (U.cell? ⟨b22, 0, none⟩ = some (.int .i64 X) ∧ U.cell? ⟨b22, 1, none⟩ = some (.int .i64 Y)) ∧ U.cell? ⟨b22, 2, none⟩ = some (.int .i64 W) ∧ U.cell? ⟨b22, 3, none⟩ = some (.int .i64 H)) (first | exact HSV.out _ (Below.refl _ _) | exact HSV.out _ (Below.refl _ _).drew | exact HSV.out _ hY11.out | fail) (first | (go_at_call 83; refine (HPE.out _ (by first | exact (Below.refl _ _).drew | exact Below.refl _ _)).mono ?_; rintro e w11 ⟨v11, x11, rfl, ho11, hb11⟩; obtain ⟨A11, c11, rfl⟩ := own_slice ho11.bx; obtain ⟨D11, e11, rfl⟩ := own_slice ho11.rc; have HO11 := hid ho11; have hY11 := hid (show Below w9.heap.size w9 w11 from (by first | exact bnext0 (Below.refl _ _).drew hb11 | exact hb11)); have HX11 := hid (bnext0 HWR.out hY11.out); clear ho11 hb11))
        clear HPE HSV HWR
        go_upto_region 28 with (fail)
        have HOO := hid (OutS.below hO.out HX11.out)
        have HKK := hid (own_keep hK.out HX11.out)
        have hs11 : B ≤ w11.heap.size := Nat.le_trans hSz.out HX11.out.size
        have HS11 := hid hs11
        obtain ⟨np, hnp⟩ : ∃ np, np = (PJ j).length := ⟨_, rfl⟩
        obtain ⟨ns, hns⟩ : ∃ ns, ns = S.length := ⟨_, rfl⟩
        have hnps : np ≤ 50000 ∧ ns ≤ 200 := by omega
        have HNP := hid hnp; have HNS := hid hns
        have hob := HOO.out.bx; have hrb := HOO.out.rc; have hob2 := HO11.out.bx; have hrb2 := HO11.out.rc
        rw [← hnp] at hob hrb
        rw [← hns] at hob2 hrb2
        rw [← hns]
        have HOB := hid hob; have HRB := hid hrb; have HOB2 := hid (Reads.of_own hob2); have HRB2 := hid hrb2
        clear hob hrb hob2 hrb2 hnp hns HOO
        obtain ⟨Av, cv, hv⟩ := own_slice HOB.out
        obtain ⟨Au, cu, hu⟩ := own_slice HRB.out
        subst hv
        subst hu
        go_upto_region 29 with (at_builtin; go_loud (refine app_rdS rfl (.tmp 193) (.tmp 194) Try.underBoxes' Try.infoBox rfl (by decide) (by decide) rfl B _ np (flatB (bareB l (PJ j))) rfl HOB.out A11 ns c11 w11.heap.size (flatB (bareB l S)) rfl HOB2.out (fun u hu => oneB hu) (by omega) hs11 ?_); intro v12 w12 ho12 hg12; obtain ⟨A12, c12, rfl⟩ := own_slice ho12; have HO12 := hid ho12; have HG12 := hid hg12; clear ho12 hg12)
        have HRB' := hid (HRB.out.kept HG12.out (own_ne HRB.out HOB.out (by decide)))
        have HRB2' := hid (Reads.of_own (HRB2.out.kept HG12.out (own_ne HRB2.out HOB.out (by decide))))
        have HKK' := hid (HKK.out.kept HG12.out (own_ne HKK.out HOB.out (by decide)))
        have HB12 := hid (show Below B w6 w12 from below_app (B' := B) (hB'.out.trans (HX11.out.mono hSz.out)) HOB.out HG12.out (Nat.le_refl _) hs11)
        have hs12 : B ≤ w12.heap.size := Nat.le_trans hs11 HG12.out.size
        clear HRB HRB2 HKK HOB2 HG12 HOB
        go_upto_region 16 with (at_builtin; go_loud (refine app_rdS rfl (.tmp 196) (.tmp 197) Try.underRects Try.infoRect rfl (by decide) (by decide) rfl B _ np (flatR (PJ j)) rfl HRB'.out D11 ns e11 w12.heap.size (flatR S) rfl HRB2'.out (fun u hu => oneR hu) (by omega) hs12 ?_); intro v13 w13 ho13 hg13; obtain ⟨A13, c13, rfl⟩ := own_slice ho13; have HO13 := hid ho13; have HG13 := hid hg13; clear ho13 hg13)
        have HO12' := hid (HO12.out.kept HG13.out (own_ne HO12.out HRB'.out (by decide)))
        have HK13 := hid (HKK'.out.kept HG13.out (own_ne HKK'.out HRB'.out (by decide)))
        have HB13 := hid (show Below B w6 w13 from below_app (B' := B) HB12.out HRB'.out HG13.out (Nat.le_refl _) hs12)
        have hs13 : B ≤ w13.heap.size := Nat.le_trans hs12 HG13.out.size
        have HS13 := hid hs13
        have HOF := hid (show OutS w13 B l (.slice A12 (np + ns) c12) (.slice A13 (np + ns) c13) (PJ (j + 1)) from by
          rw [HST.out]
          refine ⟨?_, ?_⟩
          · rw [List.length_append, bareB_app, flatB_app, ← HNP.out, ← HNS.out]; exact HO12'.out
          · rw [List.length_append, flatR_app, ← HNP.out, ← HNS.out]; exact HO13.out)
        clear HO12 HO13 HRB' HRB2' HKK' HG13 HB12 hs13 hs12 hs11 HO11
        go_wp2_with fail
        go_roundw
        case rel => exact ⟨j + 1, by omega, by go_num, by rw [HQ.out], HOF, HK13, HB13, HS13⟩
        case measure => simp [intOf]; omega
      · obtain rfl : j = m := by omega
        have q0 : decide ((j : Int) < (j : Int)) = false := by simp
        go_wp2_with fail
        go_ret2
        exact ⟨_, _, rfl, by rw [HX.out]; exact OutS.base_ hO.out (Nat.le_trans HBZ.out.1 H16.out.2.2), HB1.out.trans ((HCB.out wr hB'.out).mono HBZ.out.1)⟩
theorem placedR_any' (P : Int) (ss : List Sg) (l : List Nd) (d wd : Int) (hp : Pln P ss l) (hsl : ss.length ≤ 1000000) (hsv : ∀ s ∈ ss, s.vals.length ≤ 1000000) : ∀ (f i : Nat), i < l.length → l.length ≤ f + i → PlcOk P ss l d wd f i
  | 0, i, hi, hf => by omega
  | f + 1, i, hi, hf => plc_step P ss l d wd hp hsl hsv f i hi (by omega) fun k h1 h2 => placedR_any' P ss l d wd hp hsl hsv f k h2 (by omega)
end Go.Proofs.Ytfkcpcdndleboaa

/- WALK: the document's turned. -/
namespace Go.Proofs.Ytfkcpcdndleboaa
open Go.RowKit
set_option maxRecDepth 100000 in
set_option maxHeartbeats 2000000 in
theorem turnedR_any (v : Bxv) (hs : SumOk v.x v.w) (w : World) :
    Calls Try.prog 88 #[.agg #[.int .i64 v.nd.kind, .int .i64 v.nd.sign, .int .i64 v.nd.turn, .bool v.nd.mir, .int .i64 v.nd.state, .int .i64 v.nd.mn, .int .i64 v.nd.mx, .int .i64 v.x.n, .int .i64 v.x.d, .int .i64 v.y.n, .int .i64 v.y.d, .int .i64 v.w.n, .int .i64 v.w.d, .int .i64 v.h.n, .int .i64 v.h.d]] w fun e w' => e = .returned (.agg #[.int .i64 (v.x.add v.w).neg.n, .int .i64 (v.x.add v.w).neg.d]) ∧ Below w.heap.size w w' := by
  obtain ⟨w1, hw1⟩ : ∃ w1, w1 = (w.alloc (.cells #[.int .i64 v.nd.kind, .int .i64 v.nd.sign, .int .i64 v.nd.turn, .bool v.nd.mir, .int .i64 v.nd.state, .int .i64 v.nd.mn, .int .i64 v.nd.mx, .int .i64 v.x.n, .int .i64 v.x.d, .int .i64 v.y.n, .int .i64 v.y.d, .int .i64 v.w.n, .int .i64 v.w.d, .int .i64 v.h.n, .int .i64 v.h.d] 54)).alloc (.cells #[.int .i64 0, .int .i64 0] 52) := ⟨_, rfl⟩
  have hb1 : Below w.heap.size w w1 := by rw [hw1]; exact ((Below.refl _ _).alloc (Nat.le_refl _) _).alloc (by simp) _
  have hv0 : BxB w1 w.heap.size v := by rw [hw1]; exact old_blk (nw_blk rfl)
  have hf1 : FrB w1 (w.heap.size + 1) ⟨0, 0⟩ := by rw [hw1]; exact nw_blk (by simp)
  have HAD := hid (fun W : World => addR_any v.x v.w hs W)
  have hz1 : w1.heap.size = w.heap.size + 2 := by rw [hw1]; simp
  have hsb := frR_abs (n := v.x.n * v.w.d + v.w.n * v.x.d) hs.prods.2.1
  have hpp := hs.prods
  have hab : (v.x.add v.w).n.natAbs ≤ 4611686018427387904 := by
    show (frR (v.x.n * v.w.d + v.w.n * v.x.d) (v.x.d * v.w.d)).n.natAbs ≤ _
    omega
  have hc := hv0.cells
  have k7 := hc.k7; have k8 := hc.k8; have k11 := hc.k11; have k12 := hc.k12
  have HW1 := hid hw1; have HB1 := hid hb1; have HF1 := hid hf1; have HZ1 := hid hz1
  have hng : (v.x.add v.w).neg = ⟨-(v.x.add v.w).n, (v.x.add v.w).d⟩ := rfl
  rw [hng]
  generalize v.x.add v.w = s at *
  obtain ⟨sn, sd⟩ := s
  simp only [] at HAD hab ⊢
  have y1 : IntKind.i64.wrap (-sn) = -sn := wrapI (by omega) (by omega)
  clear hw1 hb1 hv0 hf1 hsb hpp hc hs hng
  go_enter Try.func88, Try.ntmps88
  go_upto_region 1 with (fail)
  rw [← HW1.out]
  clear HW1
  obtain ⟨B0, hB0⟩ : ∃ B0, B0 = w.heap.size := ⟨_, rfl⟩
  obtain ⟨B1, hB1⟩ : ∃ B1, B1 = B0 + 1 := ⟨_, rfl⟩
  rw [← hB0] at k7 k8 k11 k12 HF1
  rw [← hB1] at HF1
  rw [← hB0]
  try rw [← hB1]
  have HB1' := hid (show w.heap.size ≤ B1 by omega)
  clear hB0 hB1
  go_wp2_with (first | (go_at_call 56; refine (HAD.out _).mono ?_; rintro e w2 ⟨rfl, hb2⟩; have HB2 := hid hb2; obtain ⟨⟨q1, q2⟩, ⟨q3, q4⟩, q5⟩ := (FrB.below HF1.out hb2).cells; have z1 := cell_old (o := .cells #[.int .i64 sn, .int .i64 sd] 52) q1; have z2 := cell_old (o := .cells #[.int .i64 sn, .int .i64 sd] 52) q2; have HSZ := hid hb2.size; clear hb2 k7 k8 k11 k12))
  have hfr : FrB (((w2.setCell ⟨B1, 0, none⟩ (.int .i64 (-sn))).setCell ⟨B1, 1, none⟩ (.int .i64 sd)).alloc (.cells #[.int .i64 (-sn), .int .i64 sd] 52)) B1 ⟨-sn, sd⟩ := old_blk (FrB.set (g := ⟨-sn, sd⟩) (FrB.below HF1.out HB2.out))
  obtain ⟨⟨t1, t2⟩, _, _⟩ := hfr.cells
  simp only [] at t1 t2
  have hbb := ((HB1.out.trans (HB2.out.mono HB1.out.size)).setCell (p := ⟨B1, 0, none⟩) HB1'.out (.int .i64 (-sn))).setCell (p := ⟨B1, 1, none⟩) HB1'.out (.int .i64 sd)
  exact bodyPost_ret (v := .agg #[.int .i64 (-sn), .int .i64 sd]) (by simp only [results, Try.results88]; simp [go_sem, t1, t2]) rfl ⟨rfl, hbb.alloc hbb.size _⟩
end Go.Proofs.Ytfkcpcdndleboaa

/- WALK: the document's lay (printed by gen_layr.py). -/
namespace Go.Proofs.Ytfkcpcdndleboaa
open Go.RowKit
theorem Try.xalF11 {g : Array Edge} {t : TypeId} {p : String} : XAl Try.prog { dst := some 11, op := Op.alloc 52, type := t, pos := p, after := g, guard := none } (.cells #[.int .i64 0, .int .i64 0] 52 (0, 0)) := ⟨rfl, fun a w => by simp [go_sem]⟩
theorem Try.xalF16 {g : Array Edge} {t : TypeId} {p : String} : XAl Try.prog { dst := some 16, op := Op.alloc 52, type := t, pos := p, after := g, guard := none } (.cells #[.int .i64 0, .int .i64 0] 52 (0, 0)) := ⟨rfl, fun a w => by simp [go_sem]⟩
theorem Try.xalF17 {g : Array Edge} {t : TypeId} {p : String} : XAl Try.prog { dst := some 17, op := Op.alloc 52, type := t, pos := p, after := g, guard := none } (.cells #[.int .i64 0, .int .i64 0] 52 (0, 0)) := ⟨rfl, fun a w => by simp [go_sem]⟩
theorem flatB_at : ∀ (L : List Bxv) (k j : Nat) (hk : k < L.length), j < 15 → (flatB L)[k * 15 + j]? = (bxC L[k])[j]?
  | g :: L, 0, j, _, hj => by
    unfold flatB
    rw [List.flatMap_cons, List.getElem?_append_left (by unfold bxC; simp; omega)]
    simp
  | g :: L, k + 1, j, hk, hj => by
    have ih := flatB_at L k j (by simpa using hk) hj
    unfold flatB at ih ⊢
    rw [List.flatMap_cons, List.getElem?_append_right (by unfold bxC; simp; omega), List.getElem_cons_succ, ← ih]
    congr 1
    unfold bxC
    simp
    omega
theorem bareB_get {l : List Nd} {S : List Spot} {q : Nat} (h : q < S.length) : (bareB l S)[q]'(by rw [bareB_len]; exact h) = ⟨nd l (S[q]).node, ⟨0, 0⟩, ⟨0, 0⟩, ⟨0, 0⟩, ⟨0, 0⟩⟩ := by
  unfold bareB
  rw [List.getElem_map]
/-- What the numbers of a group allow. -/
structure GrpW (rows : Bool) (s : Fr) (c : Int × Int) (cr : Int) : Prop where
  sc : ScOk s
  c1 : 0 ≤ c.1 ∧ c.1 ≤ 200
  c2 : 0 ≤ c.2 ∧ c.2 ≤ 4800
  cr0 : 0 ≤ cr * s.n ∧ cr * s.n ≤ 48 * s.d
  sum : SumOk (whF (72 * c.1)) (frR (48 * s.d - cr * s.n) (2 * s.d))
  mid : (whF (72 * c.1)).add (frR (48 * s.d - cr * s.n) (2 * s.d)) = midF s c.1 cr
theorem grp_w {P : Int} {ss : List Sg} {l : List Nd} {rows : Bool} (hp : Pln P ss l) {k : Nat} (hk : k < l.length) {c : Int × Int} (h1 : 0 ≤ c.1 ∧ c.1 ≤ 200) (h2 : 0 ≤ c.2 ∧ c.2 ≤ 4800) : GrpW rows (gS ss l rows k) c (gCr ss l rows k) := by
  have hs := gS_ok (rows := rows) hp hk
  have hc := gCr_ok (rows := rows) hp hk
  have hm := mid_ok hs h1.1 h1.2 (show 0 ≤ gCr ss l rows k by omega) hc.2.2
  have e1 := mid_prog hs (gCr ss l rows k)
  rw [times_1 hs] at e1
  have m3 := hm.m3
  rw [e1] at m3
  refine ⟨hs, h1, h2, ⟨Int.mul_nonneg (by omega) (by have := hs.n0; omega), hc.2.2⟩, m3, ?_⟩
  rw [lin_frR hs]
  rfl
set_option maxRecDepth 100000 in
set_option maxHeartbeats 16000000 in
theorem rlay_any (P : Int) (ss : List Sg) (l : List Nd) (d wd : Int) (hp : Pln P ss l) (hsl : ss.length ≤ 1000000) (hsv : ∀ s ∈ ss, s.vals.length ≤ 1000000) (hd1 : 1 ≤ d) (hd4 : d ≤ 4) (hl0 : 0 ≤ wd) (hl1 : wd ≤ 4800) (A A2 : Option Addr) (c c2 : Nat) (w : World) (rs : Sgs w w.heap.size A ss) (rn : Nds w w.heap.size A2 l) :
    Calls Try.prog 50 #[.agg #[.int .i64 P, .slice A ss.length c], .agg #[.slice A2 l.length c2], .agg #[.int .i64 d, .int .i64 wd]] w fun e w' => ∃ v, e = .returned v ∧ w'.ownsRow w.heap.size 54 15 v (layBx ss l (decide (d ≤ 2)) d wd).length (flatB (layBx ss l (decide (d ≤ 2)) d wd)) ∧ Below w.heap.size w w' := by
  have hn := hp.len
  obtain ⟨w1, hw1⟩ : ∃ w1, w1 = ((w.alloc (.cells #[.int .i64 P, .slice A ss.length c] 24)).alloc (.cells #[.slice A2 l.length c2] 27)).alloc (.cells #[.int .i64 d, .int .i64 wd] 31) := ⟨_, rfl⟩
  have hb1 : Below w.heap.size w w1 := by rw [hw1]; exact (((Below.refl _ _).alloc (Nat.le_refl _) _).alloc (by simp) _).alloc (by simp; omega) _
  have hz1 : w1.heap.size = w.heap.size + 3 := by rw [hw1]; simp
  have hdoc : DocB w1 w.heap.size P (.slice A ss.length c) (.slice A2 l.length c2) d wd := by rw [hw1]; exact DocB.new _ _ _ _ _ _
  have HC := hid fun (W : World) (h : Below w1.heap.size w1 W) => (show DocC W w.heap.size (w.heap.size + 1) (w.heap.size + 2) P (.slice A ss.length c) (.slice A2 l.length c2) d wd from (hdoc.below h (by omega)).cells)
  have HRS := hid fun (W : World) (h : Below w1.heap.size w1 W) => (show Sgs W W.heap.size A ss from (rs.below (hb1.trans (h.mono hb1.size))).more (Nat.le_trans hb1.size h.size))
  have HRN := hid fun (W : World) (h : Below w1.heap.size w1 W) => (show Nds W W.heap.size A2 l from Reads.more (rn.below (hb1.trans (h.mono hb1.size))) (Nat.le_trans hb1.size h.size))
  have HST := hid (rstands_any P ss l d wd hp hsl hsv hl0 hl1 A A2 c c2 w1 (HRS.out w1 (Below.refl _ _)) (HRN.out w1 (Below.refl _ _)))
  have HKC := hid fun (W : World) (h : Below w1.heap.size w1 W) => refKids_any l (-1) (by omega) (by omega) hp.val.good.deps (by omega) A2 c2 W (HRN.out W h)
  rw [rkids_eq hp.val.good.wf (by omega) (by omega)] at HKC
  have HSZ := hid fun (k : Nat) (hk : k < l.length) (W : World) (h : Below w1.heap.size w1 W) => (show Calls Try.prog 65 #[.agg #[.int .i64 P, .slice A ss.length c], .agg #[.slice A2 l.length c2], .agg #[.int .i64 d, .int .i64 wd], .int .i64 k, .bool false] W fun e w' => e = .returned (.tuple #[.int .i64 (gZ ss l (decide (d ≤ 2)) k).1, .int .i64 (gZ ss l (decide (d ≤ 2)) k).2]) ∧ Below W.heap.size W w' from by
    have := rsize_any P ss l d wd hp hsl hsv l.length k hk (by omega) false A A2 c c2 W (HRS.out W h) (HRN.out W h)
    rwa [rsz_false] at this)
  have HSC := hid fun (k : Nat) (hk : k < l.length) (W : World) (h : Below w1.heap.size w1 W) => rscale_any P ss l d wd hp hsl hsv k hk A A2 c c2 W (HRS.out W h) (HRN.out W h)
  have HPL := hid fun (k : Nat) (hk : k < l.length) (W : World) (h : Below w1.heap.size w1 W) => (show Calls Try.prog 83 #[.agg #[.int .i64 P, .slice A ss.length c], .agg #[.slice A2 l.length c2], .agg #[.int .i64 d, .int .i64 wd], .int .i64 k, .agg #[.int .i64 0, .int .i64 0, .int .i64 (gZ ss l (decide (d ≤ 2)) k).1, .int .i64 (gZ ss l (decide (d ≤ 2)) k).2]] W fun e w' => ∃ v u, e = .returned (.tuple #[v, u]) ∧ OutS w' W.heap.size l v u (spotsN ss l (decide (d ≤ 2)) l.length k 0 0) ∧ Below W.heap.size W w' from by
    have hz := gZ_ok (rows := decide (d ≤ 2)) hp hk
    have a1 := hz.p1; have a2 := hz.p2; have a3 := hz.b1; have a4 := hz.b2
    have := placedR_any' P ss l d wd hp hsl hsv l.length k hk (by omega) 0 0 (gZ ss l (decide (d ≤ 2)) k).1 (gZ ss l (decide (d ≤ 2)) k).2 A A2 c c2 W ⟨by omega, by omega⟩ ⟨by omega, by omega⟩ ⟨by omega, by omega⟩ ⟨by omega, by omega⟩ (.inr rfl) (HRS.out W h) (HRN.out W h)
    rwa [plS_sz (by omega) (show ((gZ ss l (decide (d ≤ 2)) k).1, (gZ ss l (decide (d ≤ 2)) k).2) = szN ss l (decide (d ≤ 2)) l.length k from rfl)] at this)
  have HGJ := hid fun (j : Nat) (hj : j < (grpL ss l (decide (d ≤ 2)) wd).length) => (show ∃ (k : Nat) (cc : Int × Int), k < l.length ∧ (ints (nz (kidsOf l (-1))))[j]? = some (.int .i64 k) ∧ ((flatT (layS ss l (decide (d ≤ 2)) wd))[j * 2 + 0]? = some (.int .i64 cc.1) ∧ (flatT (layS ss l (decide (d ≤ 2)) wd))[j * 2 + 1]? = some (.int .i64 cc.2)) ∧
      GrpW (decide (d ≤ 2)) (gS ss l (decide (d ≤ 2)) k) cc (gCr ss l (decide (d ≤ 2)) k) ∧ ((4 ≤ (gZ ss l (decide (d ≤ 2)) k).1 ∧ (gZ ss l (decide (d ≤ 2)) k).1 ≤ 26400) ∧ 4 ≤ (gZ ss l (decide (d ≤ 2)) k).2 ∧ (gZ ss l (decide (d ≤ 2)) k).2 ≤ 26400) ∧
      boxJ ss l (decide (d ≤ 2)) d wd (j + 1) = boxJ ss l (decide (d ≤ 2)) d wd j ++ (spotsN ss l (decide (d ≤ 2)) l.length k 0 0).map (fun p => boxOf d (decide (d ≤ 2)) (gS ss l (decide (d ≤ 2)) k) cc (gCr ss l (decide (d ≤ 2)) k) (nd l p.node) p) ∧
      (∀ p ∈ spotsN ss l (decide (d ≤ 2)) l.length k 0 0, RawOk (decide (d ≤ 2)) (gS ss l (decide (d ≤ 2)) k) cc (gCr ss l (decide (d ≤ 2)) k) p) ∧ (spotsN ss l (decide (d ≤ 2)) l.length k 0 0).length ≤ 200 from by
    obtain ⟨h2, h3, h4⟩ := grpL_get hj
    obtain ⟨k, cc, e, hk, hc1, hc2⟩ := grpL_ok hp hl0 hl1 hj
    have hz := gZ_ok (rows := decide (d ≤ 2)) hp hk
    have hsp := spots_len (rows := decide (d ≤ 2)) hp l.length k hk (by omega) 0 0
    have hs2 : spn l k ≤ 200 := by unfold spn; have := endOf_le hk; omega
    rw [h4] at e
    injection e with e1 e2 e3
    have a1 := hz.p1; have a2 := hz.p2; have a3 := hz.b1; have a4 := hz.b2
    refine ⟨k, cc, hk, by rw [← e1]; unfold ints nz; simp [List.getElem?_eq_getElem h2], ⟨?_, ?_⟩, grp_w hp hk hc1 hc2, ⟨⟨by omega, by omega⟩, by omega, by omega⟩, ?_, fun p hpm => raw_ok hp hk hc1.1 hc1.2 hc2.1 hc2.2 hpm, by omega⟩
    · rw [flatT_get _ j 0 h3 (by decide), e3]; rfl
    · rw [flatT_get _ j 1 h3 (by decide), e3]; rfl
    · rw [boxJ_s hj, h4, ← e1, ← e3]; rfl)
  have HBL := hid fun (j : Nat) (hj : j ≤ (grpL ss l (decide (d ≤ 2)) wd).length) => (show (boxJ ss l (decide (d ≤ 2)) d wd j).length ≤ 50000 from by
    have h := boxJ_len (rows := decide (d ≤ 2)) (way := d) hp hl0 hl1 j hj
    have h2 : (grpL ss l (decide (d ≤ 2)) wd).length = (kidsOf l (-1)).length := grpL_len
    have h3 := kidsOf_len (l := l) (node := -1) (by omega)
    omega)
  have HBE := hid (boxJ_end (ss := ss) (l := l) (rows := decide (d ≤ 2)) (way := d) (len := wd))
  have HB0' := hid (boxJ_0 (ss := ss) (l := l) (rows := decide (d ≤ 2)) (way := d) (len := wd))
  have hgl : (grpL ss l (decide (d ≤ 2)) wd).length ≤ 200 ∧ (layS ss l (decide (d ≤ 2)) wd).length = (grpL ss l (decide (d ≤ 2)) wd).length ∧ (kidsOf l (-1)).length = (grpL ss l (decide (d ≤ 2)) wd).length := by
    have h2 : (grpL ss l (decide (d ≤ 2)) wd).length = (kidsOf l (-1)).length := grpL_len
    have h3 := kidsOf_len (l := l) (node := -1) (by omega)
    refine ⟨by omega, ?_, h2.symm⟩
    unfold layS
    rw [stands_len, List.length_map, h2]
  have HFL := hid (flatT_len (layS ss l (decide (d ≤ 2)) wd))
  have HKL := hid (show (ints (nz (kidsOf l (-1)))).length = (kidsOf l (-1)).length from by unfold ints nz; simp)
  have HRW := hid fun W : World => rowsR_any d wd W
  have HRT := hid fun (s : Fr) (hs : ScOk s) (cc : Int × Int) (cr : Int) (n : Nd) (p : Spot) => raw_turn hs d (decide (d ≤ 2)) cc cr n p
  have hcr : ∀ k, gCr ss l (decide (d ≤ 2)) k = if decide (d ≤ 2) = true then (gZ ss l (decide (d ≤ 2)) k).2 else (gZ ss l (decide (d ≤ 2)) k).1 := fun _ => rfl
  have HCR := hid hcr
  clear hcr
  generalize decide (d ≤ 2) = rows at *
  obtain ⟨m, hm⟩ : ∃ m, m = (grpL ss l rows wd).length := ⟨_, rfl⟩
  obtain ⟨n, hnn⟩ : ∃ n, n = l.length := ⟨_, rfl⟩
  obtain ⟨N, hN⟩ : ∃ N, N = ss.length := ⟨_, rfl⟩
  rw [← hm] at hgl HGJ HBL HBE
  obtain ⟨hgl, hgl2, hgl3⟩ := hgl
  rw [hgl2] at HST HFL
  rw [hgl3] at HKC HKL
  rw [← hnn] at HST HKC HSZ HSC HPL HGJ HC hw1 hn
  rw [← hnn]
  rw [← hN] at HST HSZ HSC HPL HC hw1
  rw [← hN]
  have HW1 := hid hw1; have HB1 := hid hb1; have HZ1 := hid hz1
  clear hw1 hb1 rs rn hnn hN hm hz1 HRN HRS hp hsv hsl hdoc hgl2 hgl3
  generalize ints (nz (kidsOf l (-1))) = KV at *
  generalize flatT (layS ss l rows wd) = FT at *
  generalize spotsN ss l rows n = SP at *
  go_enter Try.func50, Try.ntmps50
  go_upto_region 1 with (fail)
  simp only [Nat.add_assoc, Nat.reduceAdd]
  rw [← HW1.out]
  clear HW1
  obtain ⟨B0, hB0⟩ : ∃ B0, B0 = w.heap.size := ⟨_, rfl⟩
  obtain ⟨B1, hB1⟩ : ∃ B1, B1 = B0 + 1 := ⟨_, rfl⟩
  obtain ⟨B2, hB2⟩ : ∃ B2, B2 = B0 + 2 := ⟨_, rfl⟩
  rw [← hB0] at HC
  rw [← hB1, ← hB2] at HC
  rw [← hB0]
  try rw [← hB1]
  try rw [← hB2]
  have HBW := hid (show w.heap.size ≤ w1.heap.size ∧ B2 < w1.heap.size by have := HZ1.out; omega)
  clear hB0 hB1 hB2
  have hc := HC.out w1 (Below.refl _ _)
  have p0 := hc.c0; have p1 := hc.c1; have p2 := hc.c2; have p3 := hc.c3; have p4 := hc.c4
  clear hc
  go_upto_region 3 with (first | (go_at_call 62; refine HST.out.mono ?_; rintro e w2 ⟨v2, rfl, ho2, hb2⟩; obtain ⟨A3, c3, rfl⟩ := own_slice ho2; have HO2 := hid (Reads.of_own ho2); have HB2 := hid hb2; clear ho2 hb2 p0 p1 p2 p3 p4))
  have p2 := (HC.out w2 HB2.out).c2
  go_upto_region 4 with (first | (go_at_call 66; refine (HKC.out w2 HB2.out).mono ?_; rintro e w3 ⟨v3, rfl, ho3, hb3⟩; obtain ⟨A4, c4, rfl⟩ := own_slice ho3; have HO3 := hid (Reads.of_own ho3); have HO2' := hid (Reads.more (Reads.below HO2.out hb3) hb3.size); have HB3 := hid (bnext0 HB2.out hb3); clear ho3 hb3 p2))
  clear HO2 HKC HST
  go_wp2_with fail
  go_loopw [7, 10] (fun v iv wr => ∃ j : Nat, j ≤ m ∧ iv = .int .i64 j ∧ Hid (wr.ownsRow w3.heap.size 54 15 v (boxJ ss l rows d wd j).length (flatB (boxJ ss l rows d wd j))) ∧ Hid (Below w3.heap.size w3 wr)) (fun _ iv _ => m - (intOf iv).toNat)
  case atStart => exact ⟨0, by omega, rfl, hid (by rw [HB0'.out]; exact World.ownsRow_nil _ _ _ _), hid (Below.refl _ _)⟩
  case round =>
    obtain ⟨j, hj, rfl, hO, hB⟩ := hrel
    by_cases hjm : j < m
    · obtain ⟨k, cc, hk, hkv, ⟨ht1, ht2⟩, hgw, ⟨⟨z1, z2⟩, z3, z4⟩, hbj, hraw, hsl2⟩ := HGJ.out j hjm
      have hcr := HCR.out k
      obtain ⟨b5, o5, hA4, hb5, hc5⟩ := Reads.at0 HO3.out (by omega) (by rw [HKL.out]; omega)
      subst hA4
      obtain ⟨b6, o6, hA3, hb6, hc6⟩ := Reads.at0 HO2'.out (by omega) (by rw [HFL.out]; omega)
      subst hA3
      have HWR := hid (bnext0 HB3.out hB.out)
      have HRD := hid fun (W : World) (h : Below wr.heap.size wr W) => (show (W.cell? ⟨b5, o5 + j, none⟩ = some (.int .i64 k)) ∧ W.cell? ⟨b6, o6 + j * 2, none⟩ = some (.int .i64 cc.1) ∧ W.cell? ⟨b6, o6 + j * 2 + 1, none⟩ = some (.int .i64 cc.2) from by
        have hx := bnext0 hB.out h
        refine ⟨(hx.cell (p := ⟨b5, o5 + j, none⟩) hb5).trans (hc5 _ _ hkv), ?_, ?_⟩
        · have := (hx.cell (p := ⟨b6, o6 + (j * 2 + 0), none⟩) hb6).trans (hc6 _ _ ht1)
          rwa [Nat.add_zero] at this
        · have := (hx.cell (p := ⟨b6, o6 + (j * 2 + 1), none⟩) hb6).trans (hc6 _ _ ht2)
          rwa [← Nat.add_assoc] at this)
      have HCW := hid fun (W : World) (h : Below wr.heap.size wr W) => HC.out W (bnext0 HWR.out h)
      have HXS := hid fun (W : World) (h : Below wr.heap.size wr W) => HSC.out k hk W (bnext0 HWR.out h)
      have HXZ := hid fun (W : World) (h : Below wr.heap.size wr W) => HSZ.out k hk W (bnext0 HWR.out h)
      have HXP := hid fun (W : World) (h : Below wr.heap.size wr W) => HPL.out k hk W (bnext0 HWR.out h)
      have HRAW := hid hraw; have HGW := hid hgw; have HBJ := hid hbj
      clear hc5 hc6 hb5 hb6 hkv ht1 ht2 hgw hbj hraw
      obtain ⟨zw, hzw⟩ : ∃ q, q = (gZ ss l rows k).1 := ⟨_, rfl⟩
      obtain ⟨zh, hzh⟩ : ∃ q, q = (gZ ss l rows k).2 := ⟨_, rfl⟩
      rw [← hzw, ← hzh] at hcr
      rw [← hzw] at z1 z2 HXZ HXP
      rw [← hzh] at z3 z4 HXZ HXP
      clear hzw hzh
      obtain ⟨S, hS⟩ : ∃ S, S = SP k 0 0 := ⟨_, rfl⟩
      rw [← hS] at HXP HRAW HBJ hsl2
      clear hS
      generalize gCr ss l rows k = cr at *
      generalize gS ss l rows k = s at *
      obtain ⟨ln, at_⟩ := cc
      simp only [] at HRD
      have g0 : (j : Int) < (m : Int) := by omega
      -- the scale
      go_upto_region 7 with (fail)
      refine region_al1 177 [0, 1, 2, 3, 4, 5, 6, 7] 8 [9] 11 _ (.cells #[.int .i64 0, .int .i64 0] 52 (0, 0)) (w0 := wr) (by kernel_rfl) (by kernel_rfl) rfl (Below.refl _ _) rfl rfl Try.xalF11 ?_
      apply Exists.intro
      refine ⟨?hq, ?ht⟩
      case hq =>
        intro wb hwb
        have HWB := hid hwb
        have HZ := hid (below_class (wb := wb) (Nat.le_refl wb.heap.size) fun z => HXS.out z.val (bnext0 HWB.out z.ok))
        have cz := fun z : BW wb.heap.size wb => HCW.out z.val (bnext0 HWB.out z.ok)
        have j0 := fun z => (cz z).c0; have j1 := fun z => (cz z).c1; have j2 := fun z => (cz z).c2; have j3 := fun z => (cz z).c3; have j4 := fun z => (cz z).c4
        have hkz := fun z : BW wb.heap.size wb => (HRD.out z.val (bnext0 HWB.out z.ok)).1
        clear cz hwb
        simp only [List.map_cons, List.map_nil, List.getD_cons_zero, List.getD_cons_succ]
        repeat (go_big_quiet_step (first | (go_at_call 67; with_reducible exact (HZ.out _))))
        refine wpQuiet_nil ?_
        exact rfl
      case ht =>
        intro b11 w4 hp11 hy1' hb4
        simp only [List.map_cons, List.map_nil, List.getD_cons_zero, List.getD_cons_succ]
        have hy1 : FrB w4 b11 ⟨0, 0⟩ := hy1'
        obtain ⟨⟨k1, k2⟩, ⟨k3, k4⟩, _⟩ := hy1.cells
        have HY1 := hid hy1; have HB4 := hid hb4
        clear hy1' hb4 hy1
        go_upto_region 8 with (fail)
        obtain ⟨w5, hw5⟩ : ∃ w5, w5 = (w4.setCell ⟨b11, 0, none⟩ (.int .i64 s.n)).setCell ⟨b11, 1, none⟩ (.int .i64 s.d) := ⟨_, rfl⟩
        have hf5 : FrB w5 b11 s := by rw [hw5]; exact HY1.out.set
        have hb5 : Below wr.heap.size wr w5 := by rw [hw5]; exact (HB4.out.setCell hp11 _).setCell hp11 _
        rw [← hw5]
        have HF5 := hid hf5; have HB5 := hid hb5; have HP11 := hid hp11
        clear hw5 hf5 hb5 k1 k2 k3 k4 HY1 HB4 hp11 HXS
        -- the size
        have HZ := hid (below_class (wb := w5) (Nat.le_refl w5.heap.size) fun z => HXZ.out z.val (bnext0 HB5.out z.ok))
        have cz := fun z : BW w5.heap.size w5 => HCW.out z.val (bnext0 HB5.out z.ok)
        have j0 := fun z => (cz z).c0; have j1 := fun z => (cz z).c1; have j2 := fun z => (cz z).c2; have j3 := fun z => (cz z).c3; have j4 := fun z => (cz z).c4
        have hkz := fun z : BW w5.heap.size w5 => (HRD.out z.val (bnext0 HB5.out z.ok)).1
        clear cz
        refine region_below (by kernel_rfl) (by kernel_rfl) (Below.refl w5.heap.size w5) ?_
        repeat (go_big_quiet_step (first | (go_at_call 65; with_reducible exact (HZ.out _))))
        refine wpQuiet_nil ?_
        intro _ hw'
        obtain ⟨y6, rfl⟩ := hw'
        obtain ⟨w6, hw6⟩ : ∃ W, W = y6.val := ⟨_, rfl⟩
        have HX6 := hid (show Below w5.heap.size w5 w6 by rw [hw6]; exact y6.ok)
        rw [← hw6]
        clear j0 j1 j2 j3 j4 hkz HZ hw6 HXZ
        have HB6 := hid (bnext0 HB5.out HX6.out)
        have HF6 := hid (HF5.out.below HX6.out)
        clear HF5 HB5 HX6
        go_upto_region 9 with (fail)
        -- the boxes
        have HF6C := HF6.out.cells
        have HSV := hid fun (U : World) (u : Below w6.heap.size w6 U) => (show ((U.cell? ⟨B0, 0, none⟩ = some (.int .i64 P) ∧ U.cell? ⟨B0, 1, none⟩ = some (.slice A N c)) ∧ U.cell? ⟨B1, 0, none⟩ = some (.slice A2 n c2) ∧ U.cell? ⟨B2, 0, none⟩ = some (.int .i64 d) ∧ U.cell? ⟨B2, 1, none⟩ = some (.int .i64 wd)) ∧ U.cell? ⟨b5, o5 + j, none⟩ = some (.int .i64 k) from by
          have hx := bnext0 HB6.out u
          have cz := HCW.out U hx
          exact ⟨⟨⟨cz.c0, cz.c1⟩, cz.c2, cz.c3, cz.c4⟩, (HRD.out U hx).1⟩)
        have HPE := hid fun (U : World) (u : Below w6.heap.size w6 U) => HXP.out U (bnext0 HB6.out u)
        clear HXP HF6C
        go_region_held3 (fun U => ((U.cell? ⟨B0, 0, none⟩ = some (.int .i64 P) ∧ U.cell? ⟨B0, 1, none⟩ = some (.slice A N c)) ∧ U.cell? ⟨B1, 0, none⟩ = some (.slice A2 n c2) ∧ U.cell? ⟨B2, 0, none⟩ = some (.int .i64 d) ∧ U.cell? ⟨B2, 1, none⟩ = some (.int .i64 wd)) ∧ U.cell? ⟨b5, o5 + j, none⟩ = some (.int .i64 k)) (first | exact HSV.out _ (Below.refl _ _) | exact HSV.out _ (Below.refl _ _).drew | exact HSV.out _ hY9.out | fail) (first | (go_at_call 83; refine (HPE.out _ (by first | exact (Below.refl _ _).drew | exact Below.refl _ _)).mono ?_; rintro e w9 ⟨v9, x9, rfl, ho9, hb9⟩; obtain ⟨A9, c9, rfl⟩ := own_slice ho9.bx; obtain ⟨D9, e9, rfl⟩ := own_slice ho9.rc; have HO9 := hid (show OutS w9 w6.heap.size l (.slice A9 S.length c9) (.slice D9 S.length e9) S from ho9); have hY9 := hid (show Below w6.heap.size w6 w9 from (by first | exact bnext0 (Below.refl _ _).drew hb9 | exact hb9)); clear ho9 hb9))
        clear HPE HSV
        have HB9 := hid (bnext0 HB6.out hY9.out)
        have HF9 := hid (HF6.out.below hY9.out)
        obtain ⟨np, hnp⟩ : ∃ np, np = S.length := ⟨_, rfl⟩
        have hbr : ∀ q, q < np → ∃ g9, A9 = some ⟨g9, 0, none⟩ ∧ wr.heap.size ≤ g9 ∧ g9 < w9.heap.size ∧ ∀ i u, (flatB (bareB l S))[i]? = some u → w9.cell? ⟨g9, i, none⟩ = some u := fun q hq => by
          obtain ⟨g9, cq, e, hg1, hg2⟩ := own_some HO9.out.bx (by omega)
          injection e with e1 e2 e3
          refine ⟨g9, e1, Nat.le_trans HB6.out.size hg1, hg2, fun i u hu => ?_⟩
          have h := HO9.out.bx.cells (g := g9) (by rw [e1]; rfl) i u hu
          rwa [Addr.add_lit, Nat.zero_add] at h
        have hrr : ∀ q, q < np → ∃ g9, D9 = some ⟨g9, 0, none⟩ ∧ wr.heap.size ≤ g9 ∧ g9 < w9.heap.size ∧ ∀ i u, (flatR S)[i]? = some u → w9.cell? ⟨g9, i, none⟩ = some u := fun q hq => by
          obtain ⟨g9, cq, e, hg1, hg2⟩ := own_some HO9.out.rc (by omega)
          injection e with e1 e2 e3
          refine ⟨g9, e1, Nat.le_trans HB6.out.size hg1, hg2, fun i u hu => ?_⟩
          have h := HO9.out.rc.cells (g := g9) (by rw [e1]; rfl) i u hu
          rwa [Addr.add_lit, Nat.zero_add] at h
        rw [← hnp] at hsl2
        rw [← hnp]
        have HNP := hid hnp; have HBXR := hid hbr; have HRCR := hid hrr
        clear hnp hbr hrr HO9 HF6 HB6 hY9
        go_upto_region 10 with (fail)
        have HWA := hid fun W : World => wholeR_any at_ W
        refine region_al2 177 [0, 1, 2, 3, 4, 5, 6, 7, 8, 9, 10, 11] 12 13 [14, 15] 16 17 _ _ (.cells #[.int .i64 0, .int .i64 0] 52 (0, 0)) (.cells #[.int .i64 0, .int .i64 0] 52 (0, 0)) (w0 := w9) (by kernel_rfl) (by kernel_rfl) rfl (Below.refl _ _) rfl rfl rfl rfl (by decide) Try.xalF16 Try.xalF17 ?_
        apply Exists.intro
        refine ⟨?hq, ?ht⟩
        case hq =>
          intro wb hwb
          have HWB := hid hwb
          have HZA := hid (below_class (wb := wb) (Nat.le_refl wb.heap.size) fun z => HWA.out z.val)
          have i1 := fun z : BW wb.heap.size wb => (HRD.out z.val (bnext0 (bnext0 HB9.out HWB.out) z.ok)).2.2
          clear hwb
          simp only [List.map_cons, List.map_nil, List.getD_cons_zero, List.getD_cons_succ]
          repeat (go_big_quiet_step (first | (go_at_call 84; with_reducible exact (HZA.out _))))
          refine wpQuiet_nil ?_
          exact rfl
        case ht =>
          intro b16 b17 w10 hp16 hp17 hne h16 h17 hb10
          simp only [List.map_cons, List.map_nil, List.getD_cons_zero, List.getD_cons_succ]
          have hy1 : FrB w10 b16 ⟨0, 0⟩ := h16
          have hy2 : FrB w10 b17 ⟨0, 0⟩ := h17
          obtain ⟨⟨j1, j2⟩, ⟨j3, j4⟩, _⟩ := hy1.cells
          obtain ⟨⟨j5, j6⟩, ⟨j7, j8⟩, _⟩ := hy2.cells
          have HY1 := hid hy1; have HY2 := hid hy2; have HB10 := hid hb10
          have HP16 := hid hp16; have HP17 := hid (And.intro hp17 (Ne.symm hne))
          clear h16 h17 hb10 hy1 hy2 hp16 hp17 HWA
          go_upto_region 11 with (fail)
          obtain ⟨w11, hw11⟩ : ∃ w11, w11 = (((w10.setCell ⟨b16, 0, none⟩ (.int .i64 (whF at_).n)).setCell ⟨b16, 1, none⟩ (.int .i64 (whF at_).d)).setCell ⟨b17, 0, none⟩ (.int .i64 (whF at_).n)).setCell ⟨b17, 1, none⟩ (.int .i64 (whF at_).d) := ⟨_, rfl⟩
          have hfx : FrB w11 b16 (whF at_) := by rw [hw11]; exact ((HY1.out.set (g := whF at_)).far HP17.out.2).far HP17.out.2
          have hfy : FrB w11 b17 (whF at_) := by rw [hw11]; exact ((HY2.out.far hne).far hne).set (g := whF at_)
          have hb11 : Below w9.heap.size w9 w11 := by rw [hw11]; exact (((HB10.out.setCell HP16.out _).setCell HP16.out _).setCell HP17.out.1 _).setCell HP17.out.1 _
          rw [← hw11]
          have HFX := hid hfx; have HFY := hid hfy; have HB11 := hid hb11
          clear hw11 hfx hfy hb11 HY1 HY2 HB10 j1 j2 j3 j4 j5 j6 j7 j8
          have hc := HCW.out w11 (bnext0 HB9.out HB11.out)
          have p3 := hc.c3; have p4 := hc.c4
          clear hc
          go_upto_if 78 with (first | (go_at_call 85; refine (HRW.out _).mono ?_; rintro e w12 ⟨rfl, hb12⟩; have HBX := hid hb12; clear hb12 p3 p4))
          have HX12 := hid (HFX.out.below HBX.out); have HY12 := hid (HFY.out.below HBX.out)
          have HB12 := hid (bnext0 HB11.out HBX.out)
          have HBC := hid (bnext0 HB9.out HB12.out)
          have HFC11 := hid (HF9.out.below HB12.out)
          clear HFX HFY HB11 HBX
          go_cut [] (fun wx => Hid (FrB wx b16 (fX0 rows s (ln, at_) cr)) ∧ Hid (FrB wx b17 (fY0 rows s (ln, at_) cr)) ∧ Hid (Below w9.heap.size w9 wx))
          case first =>
            cases rows with
            | true =>
              have hce : cr = zh := by rw [hcr]; rfl
              have hg := HGW.out
              have hs1 := hg.sc.d0; have hs2 := hg.sc.d1; have hs3 := hg.sc.n0; have hs4 := hg.sc.nd; have hc0 := hg.c1; have hc1 := hg.cr0
              rw [hce] at hc1
              have HWL := hid fun W : World => wholeR_any (72 * ln) W
              have HFC := hid fun W : World => fracR_any (48 * s.d - zh * s.n) (2 * s.d) (by omega) (by omega) (by omega) (by omega) W
              have HAD := hid fun W : World => addR_any (whF (72 * ln)) (frR (48 * s.d - zh * s.n) (2 * s.d)) (by rw [← hce]; exact hg.sum) W
              have hmid := hg.mid
              rw [hce] at hmid
              rw [hmid] at HAD
              have y1 : IntKind.i64.wrap (72 * ln) = 72 * ln := wrapI (by omega) (by omega)
              have y2 : IntKind.i64.wrap (48 * s.d) = 48 * s.d := wrapI (by omega) (by omega)
              have y3 : IntKind.i64.wrap (zh * s.n) = zh * s.n := wrapI (by omega) (by omega)
              have y4 : IntKind.i64.wrap (48 * s.d - zh * s.n) = 48 * s.d - zh * s.n := wrapI (by omega) (by omega)
              have y5 : IntKind.i64.wrap (2 * s.d) = 2 * s.d := wrapI (by omega) (by omega)
              have HMI := hid (show midF s ln cr = midF s ln zh by rw [hce])
              generalize midF s ln zh = mf at HAD HMI
              clear hg hmid hce
              go_upto_region 12 with (fail)
              refine region_perm 177 [0, 1, 2, 3, 4, 5, 6, 7, 8, 9, 10, 11, 12, 13, 14, 15, 16, 17, 18, 19] [20] (w0 := w12) (by kernel_rfl) (by kernel_rfl) rfl (Below.refl _ _) ?_
              apply Exists.intro
              refine ⟨?hq, ?ht⟩
              case hq =>
                intro wb hwb
                have HWB := hid hwb
                have HBZ := hid fun y : BW wb.heap.size wb => (show Below wr.heap.size wr y.val from bnext0 (bnext0 HBC.out HWB.out) y.ok)
                have HZA := hid (below_class (wb := wb) (Nat.le_refl wb.heap.size) fun z => HWL.out z.val)
                have HZB := hid (below_class (wb := wb) (Nat.le_refl wb.heap.size) fun z => HFC.out z.val)
                have HZD := hid (below_class (wb := wb) (Nat.le_refl wb.heap.size) fun z => HAD.out z.val)
                have i1 := fun z => (HRD.out z.val (HBZ.out z)).2.1
                have cy := fun z : BW wb.heap.size wb => ((HFC11.out.below HWB.out).below z.ok).cells
                have i2 := fun z => (cy z).1.1
                have i3 := fun z => (cy z).1.2
                clear cy hwb
                simp only [List.map_cons, List.map_nil, List.getD_cons_zero, List.getD_cons_succ]
                repeat (go_big_quiet_step (first | (go_at_call 84; with_reducible exact (HZA.out _)) | (go_at_call 86; with_reducible exact (HZB.out _)) | (go_at_call 56; with_reducible exact (HZD.out _))))
                refine wpQuiet_nil ?_
                exact rfl
              case ht =>
                intro w13 hb13
                have HY1 := hid (HX12.out.below hb13); have HY2 := hid (HY12.out.below hb13)
                have HB13 := hid (show Below w9.heap.size w9 w13 from bnext0 HB12.out hb13)
                obtain ⟨⟨k1, k2⟩, ⟨k3, k4⟩, _⟩ := (HY2.out).cells
                simp only [List.map_cons, List.map_nil, List.getD_cons_zero, List.getD_cons_succ]
                clear hb13 y1 y2 y3 y4 y5 HWL HFC HAD
                go_wp2_with fail
                go_meet
                exact ⟨hid (by exact (HY1.out.far HP17.out.2).far HP17.out.2), hid (by show FrB _ b17 (midF s ln cr); rw [HMI.out]; exact HY2.out.set (g := mf)), hid ((HB13.out.setCell HP17.out.1 _).setCell HP17.out.1 _)⟩
            | false =>
              have hce : cr = zw := by rw [hcr]; rfl
              have hg := HGW.out
              have hs1 := hg.sc.d0; have hs2 := hg.sc.d1; have hs3 := hg.sc.n0; have hs4 := hg.sc.nd; have hc0 := hg.c1; have hc1 := hg.cr0
              rw [hce] at hc1
              have HWL := hid fun W : World => wholeR_any (72 * ln) W
              have HFC := hid fun W : World => fracR_any (48 * s.d - zw * s.n) (2 * s.d) (by omega) (by omega) (by omega) (by omega) W
              have HAD := hid fun W : World => addR_any (whF (72 * ln)) (frR (48 * s.d - zw * s.n) (2 * s.d)) (by rw [← hce]; exact hg.sum) W
              have hmid := hg.mid
              rw [hce] at hmid
              rw [hmid] at HAD
              have y1 : IntKind.i64.wrap (72 * ln) = 72 * ln := wrapI (by omega) (by omega)
              have y2 : IntKind.i64.wrap (48 * s.d) = 48 * s.d := wrapI (by omega) (by omega)
              have y3 : IntKind.i64.wrap (zw * s.n) = zw * s.n := wrapI (by omega) (by omega)
              have y4 : IntKind.i64.wrap (48 * s.d - zw * s.n) = 48 * s.d - zw * s.n := wrapI (by omega) (by omega)
              have y5 : IntKind.i64.wrap (2 * s.d) = 2 * s.d := wrapI (by omega) (by omega)
              have HMI := hid (show midF s ln cr = midF s ln zw by rw [hce])
              generalize midF s ln zw = mf at HAD HMI
              clear hg hmid hce
              go_upto_region 13 with (fail)
              refine region_perm 177 [0, 1, 2, 3, 4, 5, 6, 7, 8, 9, 10, 11, 12, 13, 14, 15, 16, 17, 18, 19] [20] (w0 := w12) (by kernel_rfl) (by kernel_rfl) rfl (Below.refl _ _) ?_
              apply Exists.intro
              refine ⟨?hq, ?ht⟩
              case hq =>
                intro wb hwb
                have HWB := hid hwb
                have HBZ := hid fun y : BW wb.heap.size wb => (show Below wr.heap.size wr y.val from bnext0 (bnext0 HBC.out HWB.out) y.ok)
                have HZA := hid (below_class (wb := wb) (Nat.le_refl wb.heap.size) fun z => HWL.out z.val)
                have HZB := hid (below_class (wb := wb) (Nat.le_refl wb.heap.size) fun z => HFC.out z.val)
                have HZD := hid (below_class (wb := wb) (Nat.le_refl wb.heap.size) fun z => HAD.out z.val)
                have i1 := fun z => (HRD.out z.val (HBZ.out z)).2.1
                have cy := fun z : BW wb.heap.size wb => ((HFC11.out.below HWB.out).below z.ok).cells
                have i2 := fun z => (cy z).1.1
                have i3 := fun z => (cy z).1.2
                clear cy hwb
                simp only [List.map_cons, List.map_nil, List.getD_cons_zero, List.getD_cons_succ]
                repeat (go_big_quiet_step (first | (go_at_call 84; with_reducible exact (HZA.out _)) | (go_at_call 86; with_reducible exact (HZB.out _)) | (go_at_call 56; with_reducible exact (HZD.out _))))
                refine wpQuiet_nil ?_
                exact rfl
              case ht =>
                intro w13 hb13
                have HY1 := hid (HX12.out.below hb13); have HY2 := hid (HY12.out.below hb13)
                have HB13 := hid (show Below w9.heap.size w9 w13 from bnext0 HB12.out hb13)
                obtain ⟨⟨k1, k2⟩, ⟨k3, k4⟩, _⟩ := (HY1.out).cells
                simp only [List.map_cons, List.map_nil, List.getD_cons_zero, List.getD_cons_succ]
                clear hb13 y1 y2 y3 y4 y5 HWL HFC HAD
                go_wp2_with fail
                go_meet
                exact ⟨hid (by show FrB _ b16 (midF s ln cr); rw [HMI.out]; exact HY1.out.set (g := mf)), hid (by exact (HY2.out.far (Ne.symm HP17.out.2)).far (Ne.symm HP17.out.2)), hid ((HB13.out.setCell HP16.out _).setCell HP16.out _)⟩
          obtain ⟨HX13, HY13, HB13⟩ := hcut
          obtain ⟨w13, hw13⟩ : ∃ W, W = wc := ⟨_, rfl⟩
          rw [← hw13] at HX13 HY13 HB13
          rw [← hw13]
          clear hw13 HX12 HY12 HB12 HBC HFC11
          have HBO := hid (bnext0 HB9.out HB13.out)
          have HF13 := hid (HF9.out.below HB13.out)
          have hbr2 : ∀ q, q < np → ∃ g9, A9 = some ⟨g9, 0, none⟩ ∧ wr.heap.size ≤ g9 ∧ g9 < w13.heap.size ∧ ∀ i u, (flatB (bareB l S))[i]? = some u → w13.cell? ⟨g9, i, none⟩ = some u := fun q hq => by
            obtain ⟨g9, e1, e2, e3, e4⟩ := HBXR.out q hq
            exact ⟨g9, e1, e2, Nat.lt_of_lt_of_le e3 HB13.out.size, fun i u hu => (HB13.out.cell (p := ⟨g9, i, none⟩) e3).trans (e4 i u hu)⟩
          have hrr2 : ∀ q, q < np → ∃ g9, D9 = some ⟨g9, 0, none⟩ ∧ wr.heap.size ≤ g9 ∧ g9 < w13.heap.size ∧ ∀ i u, (flatR S)[i]? = some u → w13.cell? ⟨g9, i, none⟩ = some u := fun q hq => by
            obtain ⟨g9, e1, e2, e3, e4⟩ := HRCR.out q hq
            exact ⟨g9, e1, e2, Nat.lt_of_lt_of_le e3 HB13.out.size, fun i u hu => (HB13.out.cell (p := ⟨g9, i, none⟩) e3).trans (e4 i u hu)⟩
          replace HBXR := hid hbr2; replace HRCR := hid hrr2
          have HKB := hid fun (W : World) (v : Value) (h : Grew w13 u7 W v) (b : Nat) (hb : b < w13.heap.size) (h2 : b < w3.heap.size ∨ wr.heap.size ≤ b) => (show W.heap[b]? = w13.heap[b]? from h.block hb fun e => by have := hO.out.lt b e; omega)
          have HOW := hid (own_keep hO.out HBO.out)
          have HB313 := hid (bnext0 hB.out HBO.out)
          have HDC := HCW.out w13 HBO.out
          have p3 := HDC.c3
          have HPG := hid p3
          have HP11' := hid (show wr.heap.size ≤ b11 ∧ wr.heap.size ≤ b16 ∧ wr.heap.size ≤ b17 by have h1 := HP11.out; have h2 := HP16.out; have h3 := HP17.out.1; have h4 := HB9.out.size; omega)
          have HZ3 := hid (show B2 < w3.heap.size by have := HBW.out.2; have := HB3.out.size; omega)
          have hz13 := HB313.out.size
          have hzr := hB.out.size
          have hzo := HBO.out.size
          have HZZ := hid (And.intro hz13 (And.intro hzr hzo))
          clear hbr2 hrr2 HDC p3 HB9 HF9 HB13 hz13 hzr hzo HP11 HP16 hcr HCW HRD
          obtain ⟨wo, hwo⟩ : ∃ wo, wo = wr := ⟨_, rfl⟩
          subst hwo
          go_wp2_with fail
          go_loopw [7, 18] (fun v iv wq => ∃ q : Nat, q ≤ np ∧ iv = .int .i64 q ∧ Hid (wq.ownsRow w3.heap.size 54 15 v (boxJ ss l rows d wd j ++ (S.take q).map (fun p => boxOf d rows s (ln, at_) cr (nd l p.node) p)).length (flatB (boxJ ss l rows d wd j ++ (S.take q).map (fun p => boxOf d rows s (ln, at_) cr (nd l p.node) p)))) ∧ Hid (Grew w13 u7 wq v)) (fun _ iv _ => np - (intOf iv).toNat)
          case atStart => exact ⟨0, by omega, rfl, hid (by rw [List.take_zero, List.map_nil, List.append_nil]; exact HOW.out), hid (Grew.refl _ _)⟩
          case round =>
          obtain ⟨q, hqn, rfl, hO2, hGR⟩ := hrel
          by_cases hqm : q < np
          · have hql : q < S.length := by rw [← HNP.out]; exact hqm
            obtain ⟨g9, rfl, hg1, hg2, hcs⟩ := HBXR.out q hqm
            obtain ⟨g8, rfl, hg3, hg4, hcr8⟩ := HRCR.out q hqm
            have hrw := HRAW.out _ (List.getElem_mem hql)
            have keep := HKB.out wr _ hGR.out
            obtain ⟨hp1, hp2, hp3⟩ := HP11'.out
            obtain ⟨hz1, hz2, hz3⟩ := HZZ.out
            have hbx : FrB wr b16 (fX0 rows s (ln, at_) cr) := (keep b16 (lt_of_block HX13.out) (.inr hp2)).trans HX13.out
            have hby : FrB wr b17 (fY0 rows s (ln, at_) cr) := (keep b17 (lt_of_block HY13.out) (.inr hp3)).trans HY13.out
            have hbs : FrB wr b11 s := (keep b11 (lt_of_block HF13.out) (.inr hp1)).trans HF13.out
            have hpg : wr.cell? ⟨B2, 0, none⟩ = some (.int .i64 d) := (World.cell?_of_block (a := ⟨B2, 0, none⟩) (keep B2 (by have := HZ3.out; omega) (.inl HZ3.out))).trans HPG.out
            have hbc := fun (i : Nat) (hi : i < 15) (u : Value) (hu : (bxC ⟨nd l (S[q]).node, ⟨0, 0⟩, ⟨0, 0⟩, ⟨0, 0⟩, ⟨0, 0⟩⟩)[i]? = some u) => (World.cell?_of_block (a := ⟨g9, q * 15 + i, none⟩) (keep g9 hg2 (.inr hg1))).trans (hcs (q * 15 + i) u ((flatB_at (bareB l S) q i (by rw [bareB_len]; exact hql) hi).trans (by rw [bareB_get hql]; exact hu)))
            have hrc := fun (i : Nat) (hi : i < 4) (u : Value) (hu : (rcC S[q])[i]? = some u) => (World.cell?_of_block (a := ⟨g8, q * 4 + i, none⟩) (keep g8 hg4 (.inr hg3))).trans (hcr8 (q * 4 + i) u ((flatR_get S q i hql hi).trans hu))
            have e0 := hbc 0 (by omega) _ rfl
            have e1 := hbc 1 (by omega) _ rfl
            have e2 := hbc 2 (by omega) _ rfl
            have e3 := hbc 3 (by omega) _ rfl
            have e4 := hbc 4 (by omega) _ rfl
            have e5 := hbc 5 (by omega) _ rfl
            have e6 := hbc 6 (by omega) _ rfl
            have e7 := hbc 7 (by omega) _ rfl
            have e8 := hbc 8 (by omega) _ rfl
            have e9 := hbc 9 (by omega) _ rfl
            have e10 := hbc 10 (by omega) _ rfl
            have e11 := hbc 11 (by omega) _ rfl
            have e12 := hbc 12 (by omega) _ rfl
            have e13 := hbc 13 (by omega) _ rfl
            have e14 := hbc 14 (by omega) _ rfl
            rw [Nat.add_zero] at e0
            have r0 := hrc 0 (by omega) _ rfl
            have r1 := hrc 1 (by omega) _ rfl
            have r2 := hrc 2 (by omega) _ rfl
            have r3 := hrc 3 (by omega) _ rfl
            rw [Nat.add_zero] at r0
            have htk : (S.take (q + 1)).map (fun p => boxOf d rows s (ln, at_) cr (nd l p.node) p) = (S.take q).map (fun p => boxOf d rows s (ln, at_) cr (nd l p.node) p) ++ [boxOf d rows s (ln, at_) cr (nd l (S[q]).node) S[q]] := by rw [take_s hql, List.map_append]; rfl
            have hsc := HGW.out.sc
            rw [← HRT.out s hsc] at htk
            have htl : (boxJ ss l rows d wd j ++ (S.take q).map (fun p => boxOf d rows s (ln, at_) cr (nd l p.node) p)).length ≤ 60000 := by have := HBL.out j hj; rw [List.length_append, List.length_map, List.length_take]; omega
            have HTK := hid (show boxJ ss l rows d wd j ++ (S.take (q + 1)).map (fun p => boxOf d rows s (ln, at_) cr (nd l p.node) p) = (boxJ ss l rows d wd j ++ (S.take q).map (fun p => boxOf d rows s (ln, at_) cr (nd l p.node) p)) ++ [trnB d (rawBox rows s (ln, at_) cr (nd l (S[q]).node) S[q])] from by rw [htk, List.append_assoc])
            generalize hD2 : boxJ ss l rows d wd j ++ (S.take (q + 1)).map (fun p => boxOf d rows s (ln, at_) cr (nd l p.node) p) = D2 at HTK
            have HD2 := hid hD2
            clear hD2
            generalize boxJ ss l rows d wd j ++ (S.take q).map (fun p => boxOf d rows s (ln, at_) cr (nd l p.node) p) = D1 at HTK hO2 htl
            have hraw : rawBox rows s (ln, at_) cr (nd l (S[q]).node) S[q] = ⟨nd l (S[q]).node, (fX0 rows s (ln, at_) cr).add (frR (S[q].x * s.n) s.d), (fY0 rows s (ln, at_) cr).add (frR (S[q].y * s.n) s.d), frR (S[q].w * s.n) s.d, frR (S[q].h * s.n) s.d⟩ := by
              unfold rawBox
              rw [times_s hsc, times_s hsc, times_s hsc, times_s hsc]
            obtain ⟨⟨⟨x1, x2⟩, x3, x4⟩, ⟨x5, x6⟩, x7, x8⟩ := hrw.bd
            have k1 := (frs_sc hsc).d0; have k2 := (frs_sc hsc).d1; have k3 := (frs_sc hsc).n1
            have hsx := hrw.sx; have hsy := hrw.sy; have hst := hrw.st
            rw [times_s hsc] at hsx hsy
            rw [times_s hsc, times_s hsc] at hst
            generalize nd l (S[q]).node = gn at *
            generalize S[q] = sp at *
            obtain ⟨spn, spx, spy, spw, sph⟩ := sp
            simp only [] at r0 r1 r2 r3 x1 x2 x3 x4 x5 x6 x7 x8 hsx hsy hst hraw
            have HT0 := hid fun W : World => timesR_any spx s k1 k2 k3 (by omega) W
            have HT1 := hid fun W : World => timesR_any spy s k1 k2 k3 (by omega) W
            have HT2 := hid fun W : World => timesR_any spw s k1 k2 k3 (by omega) W
            have HT3 := hid fun W : World => timesR_any sph s k1 k2 k3 (by omega) W
            have HA0 := hid fun W : World => addR_any (fX0 rows s (ln, at_) cr) (frR (spx * s.n) s.d) hsx W
            have HA1 := hid fun W : World => addR_any (fY0 rows s (ln, at_) cr) (frR (spy * s.n) s.d) hsy W
            obtain ⟨rb, hrb⟩ : ∃ rb, rb = rawBox rows s (ln, at_) cr gn ⟨spn, spx, spy, spw, sph⟩ := ⟨_, rfl⟩
            rw [← hrb] at HTK hraw
            generalize (fX0 rows s (ln, at_) cr).add (frR (spx * s.n) s.d) = fX at hraw HA0 hst
            generalize (fY0 rows s (ln, at_) cr).add (frR (spy * s.n) s.d) = fY at hraw HA1
            generalize frR (spx * s.n) s.d = tx at HT0 HA0
            generalize frR (spy * s.n) s.d = ty at HT1 HA1
            generalize frR (spw * s.n) s.d = tw at HT2 hraw hst
            generalize frR (sph * s.n) s.d = th at HT3 hraw
            generalize fX0 rows s (ln, at_) cr = fx at *
            generalize fY0 rows s (ln, at_) cr = fy at *
            have hst2 : SumOk rb.x rb.w := by rw [hraw]; exact hst
            have HTU := hid fun W : World => turnedR_any rb hst2 W
            have HRB := hid hraw; have HTL := hid htl
            clear hraw hrb hst hst2 hsx hsy hsc htl htk hbc hrc hcs hcr8 hrw x1 x2 x3 x4 x5 x6 x7 x8 k1 k2 k3
            have HALL := hid fun (W : World) (h : Below wr.heap.size wr W) => (show (((W.cell? ⟨b16, 0, none⟩ = some (.int .i64 fx.n) ∧ W.cell? ⟨b16, 1, none⟩ = some (.int .i64 fx.d)) ∧ True) ∧ ((W.cell? ⟨b17, 0, none⟩ = some (.int .i64 fy.n) ∧ W.cell? ⟨b17, 1, none⟩ = some (.int .i64 fy.d)) ∧ True) ∧ ((W.cell? ⟨b11, 0, none⟩ = some (.int .i64 s.n) ∧ W.cell? ⟨b11, 1, none⟩ = some (.int .i64 s.d)) ∧ W.cell? ⟨B2, 0, none⟩ = some (.int .i64 d))) ∧ (W.cell? ⟨g8, q * 4, none⟩ = some (.int .i64 spx) ∧ W.cell? ⟨g8, q * 4 + 1, none⟩ = some (.int .i64 spy)) ∧ W.cell? ⟨g8, q * 4 + 2, none⟩ = some (.int .i64 spw) ∧ W.cell? ⟨g8, q * 4 + 3, none⟩ = some (.int .i64 sph) from by
              have h8 := block_lt_of_cell r0
              have h2 := block_lt_of_cell hpg
              exact ⟨⟨⟨(hbx.below h).cells.1, trivial⟩, ⟨(hby.below h).cells.1, trivial⟩, (hbs.below h).cells.1, (h.cell (p := ⟨B2, 0, none⟩) h2).trans hpg⟩, ⟨(h.cell (p := ⟨g8, q * 4, none⟩) h8).trans r0, (h.cell (p := ⟨g8, q * 4 + 1, none⟩) h8).trans r1⟩, (h.cell (p := ⟨g8, q * 4 + 2, none⟩) h8).trans r2, (h.cell (p := ⟨g8, q * 4 + 3, none⟩) h8).trans r3⟩)
            have g0' : (q : Int) < (np : Int) := by omega
            clear r0 r1 r2 r3 hbx hby hbs hpg hg1 hg2 hg3 hg4 keep hp1 hp2 hp3
            go_upto_region 18 with (fail)
            obtain ⟨w14, hw14⟩ : ∃ W, W = wr.alloc (.cells #[.int .i64 gn.kind, .int .i64 gn.sign, .int .i64 gn.turn, .bool gn.mir, .int .i64 gn.state, .int .i64 gn.mn, .int .i64 gn.mx, .int .i64 0, .int .i64 0, .int .i64 0, .int .i64 0, .int .i64 0, .int .i64 0, .int .i64 0, .int .i64 0] 54) := ⟨_, rfl⟩
            obtain ⟨b19, hb19⟩ : ∃ b, b = wr.heap.size := ⟨_, rfl⟩
            have HBw14 := hid (show BxB w14 b19 ⟨gn, ⟨0, 0⟩, ⟨0, 0⟩, ⟨0, 0⟩, ⟨0, 0⟩⟩ by rw [hw14, hb19]; exact nw_blk rfl)
            have HRw14 := hid (show Below wr.heap.size wr w14 by rw [hw14]; exact (Below.refl _ _).alloc (Nat.le_refl _) _)
            have H19 := hid (show wr.heap.size ≤ b19 by omega)
            rw [← hw14]
            try rw [← hb19]
            clear hw14 hb19 e0 e1 e2 e3 e4 e5 e6 e7 e8 e9 e10 e11 e12 e13 e14
            refine region_perm 177 [0, 1, 2, 3, 4, 5, 6, 7, 8, 9] [10] (w0 := w14) (by kernel_rfl) (by kernel_rfl) rfl (Below.refl _ _) ?_
            apply Exists.intro
            refine ⟨?hq, ?ht⟩
            case hq =>
              intro wb hwb
              have HWB := hid hwb
              have ca := fun y : BW wb.heap.size wb => HALL.out y.val (bnext0 (bnext0 HRw14.out HWB.out) y.ok)
              have HZA := hid (below_class (wb := wb) (Nat.le_refl wb.heap.size) fun z => HT0.out z.val)
              have HZB := hid (below_class (wb := wb) (Nat.le_refl wb.heap.size) fun z => HA0.out z.val)
              have l1 := fun z => (ca z).1.1.1.1; have l2 := fun z => (ca z).1.1.1.2
              have l3 := fun z => (ca z).1.2.2.1.1; have l4 := fun z => (ca z).1.2.2.1.2
              have l5 := fun z => (ca z).2.1.1
              clear ca hwb
              simp only [List.map_cons, List.map_nil, List.getD_cons_zero, List.getD_cons_succ]
              repeat (go_big_quiet_step (first | (go_at_call 87; with_reducible exact (HZA.out _)) | (go_at_call 56; with_reducible exact (HZB.out _))))
              refine wpQuiet_nil ?_
              exact rfl
            case ht =>
            intro v18 hv18
            have HBV := hid (HBw14.out.below hv18)
            have HRV := hid (bnext0 HRw14.out hv18)
            have hc := HBV.out.cells
            have i0 := hc.k7; have i1 := hc.k8; have i2 := hc.z7; have i3 := hc.z8
            simp only [List.map_cons, List.map_nil, List.getD_cons_zero, List.getD_cons_succ]
            clear hc hv18
            go_upto_region 19 with (fail)
            obtain ⟨w18, hw18⟩ : ∃ W, W = (v18.setCell ⟨b19, 7, none⟩ (.int .i64 fX.n)).setCell ⟨b19, 8, none⟩ (.int .i64 fX.d) := ⟨_, rfl⟩
            have HBw18 := hid (show BxB w18 b19 ⟨gn, fX, ⟨0, 0⟩, ⟨0, 0⟩, ⟨0, 0⟩⟩ by rw [hw18]; exact HBV.out.set_x (f := fX))
            have HRw18 := hid (show Below wr.heap.size wr w18 by rw [hw18]; exact (HRV.out.setCell H19.out _).setCell H19.out _)
            rw [← hw18]
            clear hw18 i0 i1 i2 i3 HBV HRV
            refine region_perm 177 [0, 1, 2, 3, 4, 5, 6, 7, 8, 9] [10] (w0 := w18) (by kernel_rfl) (by kernel_rfl) rfl (Below.refl _ _) ?_
            apply Exists.intro
            refine ⟨?hq, ?ht⟩
            case hq =>
              intro wb hwb
              have HWB := hid hwb
              have ca := fun y : BW wb.heap.size wb => HALL.out y.val (bnext0 (bnext0 HRw18.out HWB.out) y.ok)
              have HZA := hid (below_class (wb := wb) (Nat.le_refl wb.heap.size) fun z => HT1.out z.val)
              have HZB := hid (below_class (wb := wb) (Nat.le_refl wb.heap.size) fun z => HA1.out z.val)
              have l1 := fun z => (ca z).1.2.1.1.1; have l2 := fun z => (ca z).1.2.1.1.2
              have l3 := fun z => (ca z).1.2.2.1.1; have l4 := fun z => (ca z).1.2.2.1.2
              have l5 := fun z => (ca z).2.1.2
              clear ca hwb
              simp only [List.map_cons, List.map_nil, List.getD_cons_zero, List.getD_cons_succ]
              repeat (go_big_quiet_step (first | (go_at_call 87; with_reducible exact (HZA.out _)) | (go_at_call 56; with_reducible exact (HZB.out _))))
              refine wpQuiet_nil ?_
              exact rfl
            case ht =>
            intro v19 hv19
            have HBV := hid (HBw18.out.below hv19)
            have HRV := hid (bnext0 HRw18.out hv19)
            have hc := HBV.out.cells
            have i0 := hc.k9; have i1 := hc.k10; have i2 := hc.z9; have i3 := hc.z10
            simp only [List.map_cons, List.map_nil, List.getD_cons_zero, List.getD_cons_succ]
            clear hc hv19
            go_upto_region 20 with (fail)
            obtain ⟨w19, hw19⟩ : ∃ W, W = (v19.setCell ⟨b19, 9, none⟩ (.int .i64 fY.n)).setCell ⟨b19, 10, none⟩ (.int .i64 fY.d) := ⟨_, rfl⟩
            have HBw19 := hid (show BxB w19 b19 ⟨gn, fX, fY, ⟨0, 0⟩, ⟨0, 0⟩⟩ by rw [hw19]; exact HBV.out.set_y (f := fY))
            have HRw19 := hid (show Below wr.heap.size wr w19 by rw [hw19]; exact (HRV.out.setCell H19.out _).setCell H19.out _)
            rw [← hw19]
            clear hw19 i0 i1 i2 i3 HBV HRV
            refine region_perm 177 [0, 1, 2, 3, 4, 5, 6, 7] [8] (w0 := w19) (by kernel_rfl) (by kernel_rfl) rfl (Below.refl _ _) ?_
            apply Exists.intro
            refine ⟨?hq, ?ht⟩
            case hq =>
              intro wb hwb
              have HWB := hid hwb
              have ca := fun y : BW wb.heap.size wb => HALL.out y.val (bnext0 (bnext0 HRw19.out HWB.out) y.ok)
              have HZA := hid (below_class (wb := wb) (Nat.le_refl wb.heap.size) fun z => HT2.out z.val)
              have l3 := fun z => (ca z).1.2.2.1.1; have l4 := fun z => (ca z).1.2.2.1.2
              have l5 := fun z => (ca z).2.2.1
              clear ca hwb
              simp only [List.map_cons, List.map_nil, List.getD_cons_zero, List.getD_cons_succ]
              repeat (go_big_quiet_step (first | (go_at_call 87; with_reducible exact (HZA.out _))))
              refine wpQuiet_nil ?_
              exact rfl
            case ht =>
            intro v20 hv20
            have HBV := hid (HBw19.out.below hv20)
            have HRV := hid (bnext0 HRw19.out hv20)
            have hc := HBV.out.cells
            have i0 := hc.k11; have i1 := hc.k12; have i2 := hc.z11; have i3 := hc.z12
            simp only [List.map_cons, List.map_nil, List.getD_cons_zero, List.getD_cons_succ]
            clear hc hv20
            go_upto_region 21 with (fail)
            obtain ⟨w20, hw20⟩ : ∃ W, W = (v20.setCell ⟨b19, 11, none⟩ (.int .i64 tw.n)).setCell ⟨b19, 12, none⟩ (.int .i64 tw.d) := ⟨_, rfl⟩
            have HBw20 := hid (show BxB w20 b19 ⟨gn, fX, fY, tw, ⟨0, 0⟩⟩ by rw [hw20]; exact HBV.out.set_w (f := tw))
            have HRw20 := hid (show Below wr.heap.size wr w20 by rw [hw20]; exact (HRV.out.setCell H19.out _).setCell H19.out _)
            rw [← hw20]
            clear hw20 i0 i1 i2 i3 HBV HRV
            refine region_perm 177 [0, 1, 2, 3, 4, 5, 6, 7] [8] (w0 := w20) (by kernel_rfl) (by kernel_rfl) rfl (Below.refl _ _) ?_
            apply Exists.intro
            refine ⟨?hq, ?ht⟩
            case hq =>
              intro wb hwb
              have HWB := hid hwb
              have ca := fun y : BW wb.heap.size wb => HALL.out y.val (bnext0 (bnext0 HRw20.out HWB.out) y.ok)
              have HZA := hid (below_class (wb := wb) (Nat.le_refl wb.heap.size) fun z => HT3.out z.val)
              have l3 := fun z => (ca z).1.2.2.1.1; have l4 := fun z => (ca z).1.2.2.1.2
              have l5 := fun z => (ca z).2.2.2
              clear ca hwb
              simp only [List.map_cons, List.map_nil, List.getD_cons_zero, List.getD_cons_succ]
              repeat (go_big_quiet_step (first | (go_at_call 87; with_reducible exact (HZA.out _))))
              refine wpQuiet_nil ?_
              exact rfl
            case ht =>
            intro v21 hv21
            have HBV := hid (HBw20.out.below hv21)
            have HRV := hid (bnext0 HRw20.out hv21)
            have hc := HBV.out.cells
            have i0 := hc.k13; have i1 := hc.k14; have i2 := hc.z13; have i3 := hc.z14
            simp only [List.map_cons, List.map_nil, List.getD_cons_zero, List.getD_cons_succ]
            clear hc hv21
            go_upto_region 22 with (fail)
            obtain ⟨w21, hw21⟩ : ∃ W, W = (v21.setCell ⟨b19, 13, none⟩ (.int .i64 th.n)).setCell ⟨b19, 14, none⟩ (.int .i64 th.d) := ⟨_, rfl⟩
            have HBw21 := hid (show BxB w21 b19 ⟨gn, fX, fY, tw, th⟩ by rw [hw21]; exact HBV.out.set_h (f := th))
            have HRw21 := hid (show Below wr.heap.size wr w21 by rw [hw21]; exact (HRV.out.setCell H19.out _).setCell H19.out _)
            rw [← hw21]
            clear hw21 i0 i1 i2 i3 HBV HRV
            have hbv : BxB w21 b19 rb := by rw [HRB.out]; exact HBw21.out
            have HBV := hid hbv
            clear hbv HBw14 HBw18 HBw19 HBw20 HBw21 HRw14 HRw18 HRw19 HRw20 HT0 HT1 HT2 HT3 HA0 HA1 HRB
            have c3 := (HALL.out w21 HRw21.out).1.2.2.2
            have hyy : ∃ y : Nat, d = y := ⟨d.toNat, by omega⟩
            obtain ⟨y, rfl⟩ := hyy
            go_upto_if 168 with (fail)
            clear c3
            go_cut [168] (fun s1 wx => Hid (BxB wx b19 (trnB y rb)) ∧ Hid (Below wr.heap.size wr wx))
            case first =>
              by_cases h2 : (y : Int) % 2 = 0
              · have HT := hid (show trnB y rb = { rb with x := (rb.x.add rb.w).neg } from by unfold trnB; rw [if_pos h2])
                have e1 : ((y : Int) % 2 == 0) = true := by simpa using h2
                have e2 : (y % 2 == 0) = true := by simp; omega
                generalize (rb.x.add rb.w).neg = ng at HT HTU
                clear h2
                go_wp2_with (first | (refine wp_load_box rfl (.tmp 19) rfl b19 rb rfl HBV.out ?_) | (go_at_call 88; refine (HTU.out _).mono ?_; rintro e w22 ⟨rfl, hb22⟩; have HB22 := hid hb22; have hc := (HBV.out.below hb22).cells; have i0 := hc.k7; have i1 := hc.k8; have i2 := hc.z7; have i3 := hc.z8; clear hc hb22))
                go_meet
                exact ⟨hid (by rw [HT.out]; exact (HBV.out.below HB22.out).set_x (f := ng)), hid (((HRw21.out.trans (HB22.out.mono HRw21.out.size)).setCell H19.out _).setCell H19.out _)⟩
              · have HT := hid (show trnB y rb = rb from by unfold trnB; rw [if_neg h2])
                have e1 : ((y : Int) % 2 == 0) = false := by simpa using h2
                have e2 : (y % 2 == 0) = false := by simp; omega
                clear h2
                go_wp2_with fail
                go_meet
                exact ⟨hid (by rw [HT.out]; exact HBV.out), HRw21⟩
            obtain ⟨HBD, HRD'⟩ := hcut
            obtain ⟨w23, hw23⟩ : ∃ W, W = wc := ⟨_, rfl⟩
            rw [← hw23] at HBD HRD'
            rw [← hw23]
            obtain ⟨ub, hub⟩ : ∃ ub, ub = trnB y rb := ⟨_, rfl⟩
            rw [← hub] at HBD HTK
            clear hub hw23 HTU HBV HRw21 HALL
            have HEC := hid (show flatB D1 ++ [.int .i64 ub.nd.kind, .int .i64 ub.nd.sign, .int .i64 ub.nd.turn, .bool ub.nd.mir, .int .i64 ub.nd.state, .int .i64 ub.nd.mn, .int .i64 ub.nd.mx, .int .i64 ub.x.n, .int .i64 ub.x.d, .int .i64 ub.y.n, .int .i64 ub.y.d, .int .i64 ub.w.n, .int .i64 ub.w.d, .int .i64 ub.h.n, .int .i64 ub.h.d] = flatB D2 from by rw [HTK.out, flatB_app, flatB_one]; rfl)
            have HEL := hid (show D1.length + 1 = D2.length from by rw [HTK.out, List.length_append]; rfl)
            have HNX := hid fun (w14 : World) (v14 : Value) (X : Obj) (ho : w14.ownsRow w3.heap.size 54 15 v14 (D1.length + 1) (flatB D1 ++ [.int .i64 ub.nd.kind, .int .i64 ub.nd.sign, .int .i64 ub.nd.turn, .bool ub.nd.mir, .int .i64 ub.nd.state, .int .i64 ub.nd.mn, .int .i64 ub.nd.mx, .int .i64 ub.x.n, .int .i64 ub.x.d, .int .i64 ub.y.n, .int .i64 ub.y.d, .int .i64 ub.w.n, .int .i64 ub.w.d, .int .i64 ub.h.n, .int .i64 ub.h.d])) (hg : (w23.alloc X).grownBy w14 (Value.ownBlock u7)) (hf : ∀ q, v14.ownBlock = some q → Value.ownBlock u7 = some q ∨ (w23.alloc X).heap.size ≤ q) =>
              (show w14.ownsRow w3.heap.size 54 15 v14 D2.length (flatB D2) ∧ Grew w13 _ w14 v14 from by
                rw [HEC.out, HEL.out] at ho
                exact ⟨ho, (hGR.out.below (HRD'.out.alloc HRD'.out.size X)).next ⟨hg, hf⟩⟩)
            have HOK := hid fun (X : Obj) => (show (w23.alloc X).ownsRow w3.heap.size 54 15 u7 D1.length (flatB D1) ∧ w3.heap.size ≤ (w23.alloc X).heap.size from by
              have h2 := hGR.out.gr.size
              have h3 := HB313.out.size
              have h4 := HRD'.out.size
              exact ⟨own_keep hO2.out (HRD'.out.alloc HRD'.out.size X), by simp; omega⟩)
            clear hO2 hGR
            go_wp2_with (first | (refine wp_load_box rfl (.tmp 19) rfl b19 ub rfl HBD.out ?_) | (at_builtin; go_loud (refine app_elemF rfl (.tmp 172) (.tmp 174) Try.underBoxes Try.infoBox rfl (by decide) (by decide) rfl w3.heap.size _ D1.length (flatB D1) rfl (HOK.out _).1 ⟨w23.heap.size, 0, none⟩ [.int .i64 ub.nd.kind, .int .i64 ub.nd.sign, .int .i64 ub.nd.turn, .bool ub.nd.mir, .int .i64 ub.nd.state, .int .i64 ub.nd.mn, .int .i64 ub.nd.mx, .int .i64 ub.x.n, .int .i64 ub.x.d, .int .i64 ub.y.n, .int .i64 ub.y.d, .int .i64 ub.w.n, .int .i64 ub.w.d, .int .i64 ub.h.n, .int .i64 ub.h.d] rfl rfl (fun q u h => by rw [Addr.add_lit]; exact cell_here rfl (by simpa using h)) (fun u hu => by simp at hu; rcases hu with rfl | rfl | rfl | rfl | rfl | rfl | rfl | rfl | rfl | rfl | rfl | rfl | rfl | rfl | rfl <;> rfl) (by have := HTL.out; omega) (HOK.out _).2 ?_); intro v24 w24 ho24 hg24 hf24; obtain ⟨ho25, hg25⟩ := HNX.out w24 v24 _ ho24 hg24 hf24; have HO25 := hid ho25; have HG25 := hid hg25; clear ho24 hg24 hf24 ho25 hg25))
            go_roundw
            case rel => exact ⟨q + 1, by omega, by go_num, by rw [HD2.out]; exact HO25, HG25⟩
            case measure => simp [intOf]; omega
          · obtain rfl : q = np := by omega
            have g0' : decide ((q : Int) < (q : Int)) = false := by simp
            have htk : S.take q = S := by rw [HNP.out]; exact List.take_length
            have HO15 := hid (show wr.ownsRow w3.heap.size 54 15 u7 (boxJ ss l rows d wd (j + 1)).length (flatB (boxJ ss l rows d wd (j + 1))) from by
              have h := hO2.out
              rw [htk, ← HBJ.out] at h
              exact h)
            have HB15 := hid (show Below w3.heap.size w3 wr from below_app HB313.out HOW.out hGR.out.gr (Nat.le_refl _) HB313.out.size)
            clear hO2 hGR htk
            go_wp2_with fail
            go_roundw
            case rel => exact ⟨j + 1, by omega, by go_num, HO15, HB15⟩
            case measure => simp [intOf]; omega
    · obtain rfl : j = m := by omega
      have g0 : decide ((j : Int) < (j : Int)) = false := by simp
      have HOE := hid (show wr.ownsRow w3.heap.size 54 15 u7 (layBx ss l rows d wd).length (flatB (layBx ss l rows d wd)) from by have h := hO.out; rw [HBE.out] at h; exact h)
      have HWR := hid (bnext0 HB3.out hB.out)
      clear hO
      go_wp2_with fail
      go_ret
      exact ⟨u7, rfl, own_down HOE.out (by have := HBW.out.1; have := HB3.out.size; omega), HB1.out.trans (HWR.out.mono HB1.out.size)⟩
end Go.Proofs.Ytfkcpcdndleboaa

/- WALK: the document's Lay (printed by gen_layn.py). -/
namespace Go.Proofs.Ytfkcpcdndleboaa
open Go.RowKit
set_option maxRecDepth 100000 in
set_option maxHeartbeats 4000000 in
theorem LayN_any (P : Int) (ss : List Sg) (l : List Nd) (hN : ss.length ≤ 1000000) (hv : ∀ s ∈ ss, s.vals.length ≤ 1000000) (hn : l.length ≤ 1000000) (d wd : Int) (A A2 : Option Addr) (c c2 : Nat) (w : World) (rs : Sgs w w.heap.size A ss) (rn : Nds w w.heap.size A2 l) :
    Calls Try.prog 15 #[.agg #[.int .i64 P, .slice A ss.length c], .agg #[.slice A2 l.length c2], .agg #[.int .i64 d, .int .i64 wd]] w (LayPost P ss l d wd w) := by
  obtain ⟨w1, hw1⟩ : ∃ w1, w1 = ((w.alloc (.cells #[.int .i64 P, .slice A ss.length c] 24)).alloc (.cells #[.slice A2 l.length c2] 27)).alloc (.cells #[.int .i64 d, .int .i64 wd] 31) := ⟨_, rfl⟩
  have hb1 : Below w.heap.size w w1 := by rw [hw1]; exact (((Below.refl _ _).alloc (Nat.le_refl _) _).alloc (by simp) _).alloc (by simp; omega) _
  have hz1 : w1.heap.size = w.heap.size + 3 := by rw [hw1]; simp
  have hdoc : DocB w1 w.heap.size P (.slice A ss.length c) (.slice A2 l.length c2) d wd := by rw [hw1]; exact DocB.new _ _ _ _ _ _
  have HC := hid fun (W : World) (h : Below w1.heap.size w1 W) => (show DocC W w.heap.size (w.heap.size + 1) (w.heap.size + 2) P (.slice A ss.length c) (.slice A2 l.length c2) d wd from (hdoc.below h (by omega)).cells)
  have HBO := hid (both_any P ss l hN hv hn d wd A A2 c c2 w1 ((rs.below hb1).more hb1.size) ((rn.below hb1).more hb1.size))
  have HPL := hid fun (W : World) (h : Below w1.heap.size w1 W) => refPlain_any P ss l hN hv hn A A2 c c2 W ((rs.below (hb1.trans (h.mono hb1.size))).more (Nat.le_trans hb1.size h.size)) ((rn.below (hb1.trans (h.mono hb1.size))).more (Nat.le_trans hb1.size h.size))
  have HRS := hid fun (W : World) (h : Below w1.heap.size w1 W) => (show Sgs W W.heap.size A ss from (rs.below (hb1.trans (h.mono hb1.size))).more (Nat.le_trans hb1.size h.size))
  have hbad : begE P ss l d wd ≠ 0 → layR P ss l d wd = [] := fun h => if_neg h
  have hok : begE P ss l d wd = 0 → layR P ss l d wd = layBx ss (plR l l.length) (decide (d ≤ 2)) d wd := fun h => if_pos h
  have HPO := hid fun (e : Ending) (w' : World) (v : Value) (h1 : e = Ending.returned (.tuple #[v, .int .i64 (begE P ss l d wd)])) (h2 : w'.ownsRow w.heap.size 54 15 v (layR P ss l d wd).length (flatB (layR P ss l d wd))) (h3 : Below w.heap.size w w') => (show LayPost P ss l d wd w e w' from ⟨v, h1, h2, h3⟩)
  have hpln : begE P ss l d wd = 0 → chkE P ss l = 0 ∧ plnL P ss l = plR l l.length ∧ Pln P ss (plR l l.length) := fun h => ⟨(beg_ok h).1, plnL_ok (beg_ok h).1, pln_of (beg_ok h).1⟩
  have HW1 := hid hw1; have HB1 := hid hb1; have HZ1 := hid hz1
  have HV := hid hv
  by_cases hb : begE P ss l d wd = 0
  · obtain ⟨hck, hpe, hp⟩ := hpln hb
    have hk := hok hb
    have hpg := page_ok (beg_ok hb).2
    rw [hb] at HBO HPO
    rw [hpe, hck] at HPL
    have HG0 := hid fun (A3 : Option Addr) (c3 : Nat) (W : World) (h : Below w1.heap.size w1 W) (r : Nds W W.heap.size A3 (plR l l.length)) => rlay_any P ss (plR l l.length) d wd hp hN HV.out hpg.1.1 hpg.1.2 (by omega) hpg.2.2 A A3 c c3 W (HRS.out W h) r
    rw [← hk] at HG0
    generalize layR P ss l d wd = V at *
    generalize plR l l.length = pl at *
    generalize LayPost P ss l d wd w = PST at *
    clear hk hbad hok hpln hck hpe hw1 hb1 hdoc rs rn hv HV HRS hp hb
    generalize ss.length = N at *
    generalize l.length = n at *
    go_enter Try.func15, Try.ntmps15
    go_upto_region 1 with (fail)
    simp only [Nat.add_assoc, Nat.reduceAdd]
    rw [← HW1.out]
    clear HW1
    obtain ⟨B0, hB0⟩ : ∃ B0, B0 = w.heap.size := ⟨_, rfl⟩
    obtain ⟨B1, hB1⟩ : ∃ B1, B1 = B0 + 1 := ⟨_, rfl⟩
    obtain ⟨B2, hB2⟩ : ∃ B2, B2 = B0 + 2 := ⟨_, rfl⟩
    rw [← hB0] at HC
    rw [← hB1, ← hB2] at HC
    rw [← hB0]
    try rw [← hB1]
    try rw [← hB2]
    clear hB0 hB1 hB2 hz1
    have hc := HC.out w1 (Below.refl _ _)
    have p0 := hc.c0; have p1 := hc.c1; have p2 := hc.c2; have p3 := hc.c3; have p4 := hc.c4
    clear hc
    go_upto_region 5 with (first | (go_at_call 49; refine HBO.out.mono ?_; rintro e w2 ⟨rfl, hb2⟩; have HB2 := hid hb2; have hc := HC.out w2 hb2; clear p0 p1 p2 p3 p4; have p0 := hc.c0; have p1 := hc.c1; have p2 := hc.c2; clear hc hb2) | (go_at_call 20; refine (HPL.out w2 HB2.out).mono ?_; rintro e w3 ⟨v3, rfl, ho3, hb3⟩; obtain ⟨A3, c3, rfl⟩ := own_slice ho3; have HO3 := hid ho3; have HB3 := hid (bnext0 HB2.out hb3); have HSZ3 := hid hb3.size; clear p0 p1 p2 ho3 hb3))
    obtain ⟨w4, hw4⟩ : ∃ w4, w4 = w3.alloc (.cells #[.slice A3 pl.length c3] 27) := ⟨_, rfl⟩
    obtain ⟨b11, hb11⟩ : ∃ b11, b11 = w3.heap.size := ⟨_, rfl⟩
    have htx : TxB w4 b11 (.slice A3 pl.length c3) := by rw [hw4, hb11]; exact nw_blk rfl
    have hb34 : Below w3.heap.size w3 w4 := by rw [hw4]; exact (Below.refl _ _).alloc (Nat.le_refl _) _
    have HRN4 := hid (show Nds w4 w4.heap.size A3 pl from Reads.more ((Reads.of_own HO3.out).below hb34) hb34.size)
    have HB4 := hid (bnext0 HB3.out hb34)
    rw [← hw4]
    try rw [← hb11]
    have HTX := hid htx
    clear hw4 hb11 htx hb34 HO3 HSZ3
    have p9 := HTX.out.cells
    have hc := HC.out w4 HB4.out
    have p0 := hc.c0; have p1 := hc.c1; have p3 := hc.c3; have p4 := hc.c4
    clear hc
    have HG := hid (HG0.out A3 c3 _ HB4.out HRN4.out)
    go_wp2_with (first | (go_at_call 50; refine HG.out.mono ?_; rintro e w5 ⟨v5, rfl, ho5, hb5⟩; have HO5 := hid ho5; have HZ5 := hid (bnext0 HB4.out (Below.refl _ _)).size; have HB5 := hid (bnext0 HB4.out hb5); clear p0 p1 p3 p4 p9 ho5 hb5))
    clear HG HG0 HPL HBO HRN4 HTX
    exact HPO.out _ _ v5 rfl (own_down HO5.out (Nat.le_trans HB1.out.size HZ5.out)) (HB1.out.trans (HB5.out.mono HB1.out.size))
  · have HX := hid (hbad hb)
    have e0 : (begE P ss l d wd != 0) = true := by simpa using hb
    rw [HX.out] at HPO
    generalize LayPost P ss l d wd w = PST at *
    generalize begE P ss l d wd = BE at *
    generalize ss.length = N at *
    generalize l.length = n at *
    clear hbad hok hpln hb hw1 hb1 hdoc rs rn hv HV HRS HPL
    go_enter Try.func15, Try.ntmps15
    go_upto_region 1 with (fail)
    simp only [Nat.add_assoc, Nat.reduceAdd]
    rw [← HW1.out]
    clear HW1
    obtain ⟨B0, hB0⟩ : ∃ B0, B0 = w.heap.size := ⟨_, rfl⟩
    obtain ⟨B1, hB1⟩ : ∃ B1, B1 = B0 + 1 := ⟨_, rfl⟩
    obtain ⟨B2, hB2⟩ : ∃ B2, B2 = B0 + 2 := ⟨_, rfl⟩
    rw [← hB0] at HC
    rw [← hB1, ← hB2] at HC
    rw [← hB0]
    try rw [← hB1]
    try rw [← hB2]
    clear hB0 hB1 hB2 hz1
    have hc := HC.out w1 (Below.refl _ _)
    have p0 := hc.c0; have p1 := hc.c1; have p2 := hc.c2; have p3 := hc.c3; have p4 := hc.c4
    clear hc
    go_wp2_with (first | (go_at_call 49; refine HBO.out.mono ?_; rintro e w2 ⟨rfl, hb2⟩; have HB2 := hid hb2; clear p0 p1 p2 p3 p4 hb2))
    exact HPO.out _ _ (.slice none 0 0) rfl (World.ownsRow_nil _ _ _ _) (HB1.out.trans (HB2.out.mono HB1.out.size))
end Go.Proofs.Ytfkcpcdndleboaa

/- WALK: the same boxes twice. -/
namespace Go.Proofs.Ytfkcpcdndleboaa
open Go.RowKit
theorem quiet_load_row {P : Program} {ops : Array Oper} {C : World → Prop} {Q : Act → Prop} {rest : List Oper} {o : Oper} {a : Act} (hgd : o.guard = none) (ty : TypeId) (x : Operand) (ho : o.op = .load ty x) (b of : Nat) (cs : List Value) (d : TypeDesc) (hx : a.eval x = .pointer (some ⟨b, of, none⟩)) (hr : ∀ w, C w → w.rangeAt b of cs)
    (hu : P.underlying ty = some d) (hd : d.isRow = true) (hi : (P.info? ty).map (·.size) = some cs.length) (h : wpQuiet P ops C Q rest (a.put o.dst (.agg cs.toArray))) : wpQuiet P ops C Q (o :: rest) a := by
  unfold wpQuiet
  rw [if_pos (by simp [Region.wanted, hgd])]
  refine ⟨.agg cs.toArray, fun w hw => ?_, h⟩
  unfold Oper.quietAt execOp
  simp only [ho, hx, Instr.loadAt, Instr.sureAddr, Sem.run_bind, Sem.run_pure, Result.andThen_ok, run_loadVar_mid w b of ty cs d (hr w hw) hu hd hi, Oper.quietUpon, and_self]
/-- Boxes that are only read. -/
def Bxr (w : World) (B : Nat) (A : Option Addr) (L : List Bxv) : Prop := Reads w B 15 A L.length (flatB L)
theorem Bxr.at {w : World} {B : Nat} {A : Option Addr} {L : List Bxv} (h : Bxr w B A L) (hl : 0 < L.length) : ∃ b o, A = some ⟨b, o, none⟩ ∧ b < B ∧ ∀ j (hj : j < L.length), w.rangeAt b (o + j * 15) (bxC L[j]) := by
  have hfl : (flatB L).length = L.length * 15 := by
    clear h hl
    induction L with
    | nil => rfl
    | cons x L ih => unfold flatB at ih ⊢; rw [List.flatMap_cons, List.length_append, ih, List.length_cons]; unfold bxC; simp; omega
  obtain ⟨b, o, e, hb, hc⟩ := Reads.at0 h hl (by rw [hfl]; omega)
  refine ⟨b, o, e, hb, fun j hj k u hu => ?_⟩
  have hk : k < 15 := by
    have := (List.getElem?_eq_some_iff.1 hu).1
    unfold bxC at this
    simpa using this
  rw [Nat.add_assoc]
  exact hc (j * 15 + k) u ((flatB_at L j k hj hk).trans hu)
set_option maxHeartbeats 1000000 in
theorem run_neq_bx (v : Bxv) (W : World) : (binOp .neq 54 (.agg #[.int .i64 v.nd.kind, .int .i64 v.nd.sign, .int .i64 v.nd.turn, .bool v.nd.mir, .int .i64 v.nd.state, .int .i64 v.nd.mn, .int .i64 v.nd.mx, .int .i64 v.x.n, .int .i64 v.x.d, .int .i64 v.y.n, .int .i64 v.y.d, .int .i64 v.w.n, .int .i64 v.w.d, .int .i64 v.h.n, .int .i64 v.h.d]) (.agg #[.int .i64 v.nd.kind, .int .i64 v.nd.sign, .int .i64 v.nd.turn, .bool v.nd.mir, .int .i64 v.nd.state, .int .i64 v.nd.mn, .int .i64 v.nd.mx, .int .i64 v.x.n, .int .i64 v.x.d, .int .i64 v.y.n, .int .i64 v.y.d, .int .i64 v.w.n, .int .i64 v.w.d, .int .i64 v.h.n, .int .i64 v.h.d])).run Try.prog W = .ok (.bool false) W := by
  simp [go_sem]
set_option maxRecDepth 100000 in
set_option maxHeartbeats 2000000 in
theorem sameBoxes_any (L : List Bxv) (Aa Ab : Option Addr) (ca cb : Nat) (hn : L.length ≤ 1000000) (w : World) (ra : Bxr w w.heap.size Aa L) (rb : Bxr w w.heap.size Ab L) :
    Calls Try.prog 16 #[.slice Aa L.length ca, .slice Ab L.length cb] w fun e w' => e = .returned (.bool true) ∧ Below w.heap.size w w' := by
  obtain ⟨n, hnn⟩ : ∃ n, n = L.length := ⟨_, rfl⟩
  rw [← hnn] at hn
  rw [← hnn]
  have HN := hid hnn; have RA := hid ra; have RB := hid rb
  clear hnn ra rb
  go_enter Try.func16, Try.ntmps16
  go_wp2_with fail
  go_loopw [5] (fun kv wr => ∃ k : Nat, k ≤ n ∧ kv = .int .i64 k ∧ Hid (Below w.heap.size w wr)) (fun kv _ => n - (intOf kv).toNat)
  case atStart => exact ⟨0, by omega, rfl, hid (Below.refl _ _)⟩
  case round =>
    obtain ⟨k, hk, rfl, hB⟩ := hrel
    by_cases hkn : k < n
    · have hka : k < L.length := by rw [← HN.out]; exact hkn
      obtain ⟨b1, o1, rfl, hb1, hc1⟩ := RA.out.at (by omega)
      obtain ⟨b2, o2, rfl, hb2, hc2⟩ := RB.out.at (by omega)
      have hx := hc1 k hka; have hy := hc2 k hka
      have q0 : (k : Int) < (n : Int) := by omega
      generalize L[k] = v at hx hy
      have HLA := hid fun (u : World) (h : ∃ z : BW wr.heap.size wr, u = z.val) => (show u.rangeAt b1 (o1 + k * 15) [.int .i64 v.nd.kind, .int .i64 v.nd.sign, .int .i64 v.nd.turn, .bool v.nd.mir, .int .i64 v.nd.state, .int .i64 v.nd.mn, .int .i64 v.nd.mx, .int .i64 v.x.n, .int .i64 v.x.d, .int .i64 v.y.n, .int .i64 v.y.d, .int .i64 v.w.n, .int .i64 v.w.d, .int .i64 v.h.n, .int .i64 v.h.d] from by
        obtain ⟨z, rfl⟩ := h
        exact fun j u hu => ((bnext0 hB.out z.ok).cell (p := ⟨b1, o1 + k * 15 + j, none⟩) hb1).trans (hx j u hu))
      have HLB := hid fun (u : World) (h : ∃ z : BW wr.heap.size wr, u = z.val) => (show u.rangeAt b2 (o2 + k * 15) [.int .i64 v.nd.kind, .int .i64 v.nd.sign, .int .i64 v.nd.turn, .bool v.nd.mir, .int .i64 v.nd.state, .int .i64 v.nd.mn, .int .i64 v.nd.mx, .int .i64 v.x.n, .int .i64 v.x.d, .int .i64 v.y.n, .int .i64 v.y.d, .int .i64 v.w.n, .int .i64 v.w.d, .int .i64 v.h.n, .int .i64 v.h.d] from by
        obtain ⟨z, rfl⟩ := h
        exact fun j u hu => ((bnext0 hB.out z.ok).cell (p := ⟨b2, o2 + k * 15 + j, none⟩) hb2).trans (hy j u hu))
      have hev := fun W => run_neq_bx v W
      clear hc1 hc2 hx hy hka
      go_upto_region 6 with (fail)
      refine region_below (by kernel_rfl) (by kernel_rfl) (Below.refl wr.heap.size wr) ?_
      repeat (first | (refine quiet_load_row rfl 54 (.tmp 19) rfl b1 (o1 + k * 15) _ _ rfl HLA.out Try.underBox (by kernel_rfl) (by kernel_rfl) ?_; simp only [Act.put, List.setIfInBounds_toArray, List.set_cons_succ, List.set_cons_zero]) | (refine quiet_load_row rfl 54 (.tmp 23) rfl b2 (o2 + k * 15) _ _ rfl HLB.out Try.underBox (by kernel_rfl) (by kernel_rfl) ?_; simp only [Act.put, List.setIfInBounds_toArray, List.set_cons_succ, List.set_cons_zero]) | go_big_quiet_step (fail))
      refine wpQuiet_nil ?_
      intro _ hw'
      obtain ⟨u, rfl⟩ := hw'
      have HU := hid (bnext0 hB.out u.ok)
      clear hev
      go_wp2_with fail
      go_roundw
      case rel => exact ⟨k + 1, by omega, by go_num, HU⟩
      case measure => simp [intOf]; omega
    · obtain rfl : k = n := by omega
      have q0 : decide ((k : Int) < (k : Int)) = false := by simp
      go_wp2_with fail
      go_ret
      exact ⟨rfl, hB.out⟩
end Go.Proofs.Ytfkcpcdndleboaa
