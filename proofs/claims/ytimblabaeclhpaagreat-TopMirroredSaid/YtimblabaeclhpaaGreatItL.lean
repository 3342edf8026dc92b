/- PLAIN LAW: two boxes of a layout that cross. -/
import Derived.Test.YtimblabaeclhpaaGreatNumL
namespace Go.Proofs.YtimblabaeclhpaaGreat
/-- A whole number between two fractions. -/
theorem between {A D B E m : Int} (hD : 0 < D) (hE : 0 < E) (h1 : A ≤ m * D) (h2 : m * E ≤ B) : ¬ (frR B E).lt (frR A D) := by
  rw [lt_frR hE hD]
  have e1 : A * E ≤ m * D * E := Int.mul_le_mul_of_nonneg_right h1 (by omega)
  have e2 : m * E * D ≤ B * D := Int.mul_le_mul_of_nonneg_right h2 (by omega)
  have e3 : m * D * E = m * E * D := by ac_rfl
  omega
/-- What a box spans. -/
def Bxv.xe (b : Bxv) : Fr := b.x.add b.w
def Bxv.ye (b : Bxv) : Fr := b.y.add b.h
section
variable {way : Int} {rows : Bool} {s : Fr} {c : Int × Int} {cr : Int} {n : Nd} {p : Spot}
end
section
variable {way : Int} {rows : Bool} {s s' : Fr} {c c' : Int × Int} {cr cr' : Int} {n n' : Nd} {p q : Spot}
end
/-- The states of the groups, one behind the other. -/
structure After (len : Int) (x : Fr) (a b : Int × Int) : Prop where
  lines : a.1 ≤ b.1
  same : a.1 = b.1 → a.2 + 24 + ceilF x ≤ b.2
end Go.Proofs.YtimblabaeclhpaaGreat

/- PLAIN LAW: the boxes of a layout, two by two. -/
namespace Go.Proofs.YtimblabaeclhpaaGreat
/-- A spot of a group that stands somewhere. -/
structure Itg where
  g : Nat
  c : Int × Int
  p : Spot
section
variable (ss : List Sg) (l : List Nd) (rows : Bool)
end
theorem grp_mem {l : List Nd} {i : Nat} (h : i ∈ kidsOf l (-1)) : i < l.length := by have := (kidsOf_mem (l := l) (node := -1) (by omega) (by omega) h).2; omega
section
variable {P : Int} {ss : List Sg} {l : List Nd} {rows : Bool} (hp : Pln P ss l)
include hp
theorem gZ_ok {i : Nat} (hi : i < l.length) : SzOk 26380 (gZ ss l rows i) := by
  refine (szN_ok (rows := rows) hp l.length i hi (by omega)).more ?_
  have h1 := hp.len
  have h2 : spn l i ≤ l.length := by unfold spn; have := endOf_le hi; omega
  omega
theorem gS_ok {i : Nat} (hi : i < l.length) : ScOk (gS ss l rows i) := scl_ok (gZ_ok hp hi) (by omega)
theorem gAl_ok {i : Nat} (hi : i < l.length) : 4 ≤ gAl ss l rows i ∧ gAl ss l rows i ≤ 26380 := by
  have h := gZ_ok (rows := rows) hp hi
  have a1 := h.p1; have a2 := h.p2; have b1 := h.b1; have b2 := h.b2
  unfold gAl
  split <;> omega
theorem gCr_ok {i : Nat} (hi : i < l.length) : 4 ≤ gCr ss l rows i ∧ gCr ss l rows i ≤ 26380 ∧ gCr ss l rows i * (gS ss l rows i).n ≤ 48 * (gS ss l rows i).d := by
  have h := gZ_ok (rows := rows) hp hi
  have a1 := h.p1; have a2 := h.p2; have b1 := h.b1; have b2 := h.b2
  have hf := scl_fit (rows := rows) (n := nd l i) h (by omega)
  unfold gCr gS
  cases rows with
  | true => rw [if_pos rfl]; exact ⟨a2, b2, hf.1 rfl⟩
  | false => rw [if_neg (by decide)]; exact ⟨a1, b1, hf.2 rfl⟩
theorem gL_ok {i : Nat} (hi : i < l.length) : LgOk (gL ss l rows i) := by
  have := gAl_ok (rows := rows) hp hi
  exact LgOk.of (gS_ok hp hi) (by omega) (by omega)
theorem spot_bd {i : Nat} (hi : i < l.length) {p : Spot} (h : p ∈ spotsN ss l rows l.length i 0 0) : (0 ≤ p.x ∧ 0 ≤ p.y ∧ 2 ≤ p.w ∧ 2 ≤ p.h) ∧ p.x + p.w ≤ (gZ ss l rows i).1 ∧ p.y + p.h ≤ (gZ ss l rows i).2 := by
  have h1 := spots_in (rows := rows) hp l.length i hi (by omega) 0 0 p h
  have a1 := h1.x1; have a2 := h1.y1; have a3 := h1.x2; have a4 := h1.y2
  refine ⟨⟨a1, a2, h1.w0, h1.h0⟩, ?_, ?_⟩
  · show _ ≤ (szN ss l rows l.length i).1; omega
  · show _ ≤ (szN ss l rows l.length i).2; omega
end
end Go.Proofs.YtimblabaeclhpaaGreat

/- PLAIN LAW: groups where they stand, in a row; boxes in a row. -/
namespace Go.Proofs.YtimblabaeclhpaaGreat
open Go.RowKit
/-- A group where it stands. -/
structure Gp where
  node : Nat
  s : Fr
  c : Int × Int
def gpC (g : Gp) : List Value := [.int .i64 g.node, .int .i64 g.s.n, .int .i64 g.s.d, .int .i64 g.c.1, .int .i64 g.c.2]
def flatG (L : List Gp) : List Value := L.flatMap gpC
theorem flatG_app (L M : List Gp) : flatG (L ++ M) = flatG L ++ flatG M := List.flatMap_append ..
theorem flatG_one (s : Gp) : flatG [s] = gpC s := by unfold flatG; simp
theorem flatG_len (L : List Gp) : (flatG L).length = L.length * 5 := by
  induction L with
  | nil => rfl
  | cons x L ih => unfold flatG at ih ⊢; rw [List.flatMap_cons, List.length_append, ih, List.length_cons]; unfold gpC; simp; omega
theorem flatG_get : ∀ (L : List Gp) (k j : Nat) (hk : k < L.length), j < 5 → (flatG L)[k * 5 + j]? = (gpC L[k])[j]?
  | g :: L, 0, j, _, hj => by
    unfold flatG
    rw [List.flatMap_cons, List.getElem?_append_left (by unfold gpC; simp; omega)]
    simp
  | g :: L, k + 1, j, hk, hj => by
    have ih := flatG_get L k j (by simpa using hk) hj
    unfold flatG at ih ⊢
    rw [List.flatMap_cons, List.getElem?_append_right (by unfold gpC; simp; omega), List.getElem_cons_succ, ← ih]
    congr 1
    unfold gpC
    simp
    omega
/-- A box, as fifteen cells. -/
def bxC (b : Bxv) : List Value := [.int .i64 b.nd.kind, .int .i64 b.nd.sign, .int .i64 b.nd.turn, .bool b.nd.mir, .int .i64 b.nd.state, .int .i64 b.nd.mn, .int .i64 b.nd.mx, .int .i64 b.x.n, .int .i64 b.x.d, .int .i64 b.y.n, .int .i64 b.y.d, .int .i64 b.w.n, .int .i64 b.w.d, .int .i64 b.h.n, .int .i64 b.h.d]
def flatB (L : List Bxv) : List Value := L.flatMap bxC
theorem flatB_app (L M : List Bxv) : flatB (L ++ M) = flatB L ++ flatB M := List.flatMap_append ..
theorem flatB_one (s : Bxv) : flatB [s] = bxC s := by unfold flatB; simp
section
variable (ss : List Sg) (l : List Nd) (rows : Bool) (len : Int)
noncomputable def grpL : List Gp := List.zipWith (fun i c => ⟨i, gS ss l rows i, c⟩) (kidsOf l (-1)) (layS ss l rows len)
/-- The first groups, and where the next one could begin. -/
noncomputable def grpJ (j : Nat) : List Gp := List.zipWith (fun i c => ⟨i, gS ss l rows i, c⟩) ((kidsOf l (-1)).take j) (stands len (((kidsOf l (-1)).take j).map (gL ss l rows)) (0, 0))
noncomputable def stJ (j : Nat) : Int × Int := stEnd len (((kidsOf l (-1)).take j).map (gL ss l rows)) (0, 0)
end
section
variable {ss : List Sg} {l : List Nd} {rows : Bool} {len : Int}
theorem take_s {α : Type} {xs : List α} {j : Nat} (h : j < xs.length) : xs.take (j + 1) = xs.take j ++ [xs[j]] := by rw [List.take_add_one, List.getElem?_eq_getElem h]; rfl
theorem grpJ_0 : grpJ ss l rows len 0 = [] := rfl
theorem stJ_0 : stJ ss l rows len 0 = (0, 0) := rfl
theorem grpJ_s {j : Nat} (h : j < (kidsOf l (-1)).length) : grpJ ss l rows len (j + 1) = grpJ ss l rows len j ++ [⟨(kidsOf l (-1))[j], gS ss l rows (kidsOf l (-1))[j], stq len (stJ ss l rows len j) (gL ss l rows (kidsOf l (-1))[j])⟩] := by
  unfold grpJ stJ
  rw [take_s h, List.map_append, List.map_cons, List.map_nil, stands_snoc, List.zipWith_append (by rw [stands_len, List.length_map])]
  rfl
theorem stJ_s {j : Nat} (h : j < (kidsOf l (-1)).length) : stJ ss l rows len (j + 1) = stn (stq len (stJ ss l rows len j) (gL ss l rows (kidsOf l (-1))[j])) (gL ss l rows (kidsOf l (-1))[j]) := by
  unfold stJ
  rw [take_s h, List.map_append, List.map_cons, List.map_nil, stEnd_snoc]
theorem grpJ_end : grpJ ss l rows len (kidsOf l (-1)).length = grpL ss l rows len := by
  unfold grpJ grpL layS
  rw [List.take_length]
theorem grpJ_len {j : Nat} (h : j ≤ (kidsOf l (-1)).length) : (grpJ ss l rows len j).length = j := by
  unfold grpJ
  rw [List.length_zipWith, stands_len, List.length_map, List.length_take]
  omega
theorem grpL_len : (grpL ss l rows len).length = (kidsOf l (-1)).length := by rw [← grpJ_end, grpJ_len (Nat.le_refl _)]
theorem stJ_ok {P : Int} (hp : Pln P ss l) (hl : 0 ≤ len) {j : Nat} (h : j ≤ (kidsOf l (-1)).length) : StOk len j (stJ ss l rows len j) := by
  have h0 : StOk len 0 (0, 0) := ⟨Int.le_refl _, Int.le_refl _, Int.le_refl _, by show 0 ≤ len + 26424; omega⟩
  have := stEnd_ok hl (((kidsOf l (-1)).take j).map (gL ss l rows)) 0 (0, 0) h0 fun x hx => by
    obtain ⟨i, hi, rfl⟩ := List.mem_map.1 hx
    exact gL_ok hp (grp_mem (List.mem_of_mem_take hi))
  rw [List.length_map, List.length_take, Nat.zero_add, Nat.min_eq_left h] at this
  exact this
theorem grpL_get {j : Nat} (h : j < (grpL ss l rows len).length) : ∃ (h2 : j < (kidsOf l (-1)).length) (h3 : j < (layS ss l rows len).length), (grpL ss l rows len)[j] = ⟨(kidsOf l (-1))[j], gS ss l rows (kidsOf l (-1))[j], (layS ss l rows len)[j]⟩ := by
  have h2 : j < (kidsOf l (-1)).length := by rw [← grpL_len (ss := ss) (rows := rows) (len := len)]; exact h
  have h3 : j < (layS ss l rows len).length := by unfold layS; rw [stands_len, List.length_map]; exact h2
  exact ⟨h2, h3, List.getElem_zipWith ..⟩
theorem layBx_grp (way : Int) : layBx ss l rows way len = (grpL ss l rows len).flatMap fun g => grpBx ss l rows way g.node g.c := by
  unfold layBx grpL
  generalize layS ss l rows len = cs
  generalize kidsOf l (-1) = ks
  induction ks generalizing cs with
  | nil => rfl
  | cons k ks ih =>
    cases cs with
    | nil => rfl
    | cons c cs => rw [List.zipWith_cons_cons, List.zipWith_cons_cons, List.flatten_cons, List.flatMap_cons, ih]
end
end Go.Proofs.YtimblabaeclhpaaGreat
