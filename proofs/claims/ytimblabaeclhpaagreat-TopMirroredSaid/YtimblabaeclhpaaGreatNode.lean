/- NODES of a text, as they lie in memory; groups.end and groups.isLeaf. -/
import Derived.Test.YtimblabaeclhpaaGreatBase
namespace Go.Proofs.YtimblabaeclhpaaGreat
open Go.RowKit
structure Nd where
  kind : Int
  depth : Int
  sign : Int
  turn : Int
  mir : Bool
  state : Int
  mn : Int
  mx : Int
deriving DecidableEq
instance : Inhabited Nd := ⟨⟨0, 0, 0, 0, false, 0, 0, 0⟩⟩
def Nd.cells (n : Nd) : List Value := [.int .i64 n.kind, .int .i64 n.depth, .int .i64 n.sign, .int .i64 n.turn, .bool n.mir, .int .i64 n.state, .int .i64 n.mn, .int .i64 n.mx]
def Nd.val (n : Nd) : Value := .agg #[.int .i64 n.kind, .int .i64 n.depth, .int .i64 n.sign, .int .i64 n.turn, .bool n.mir, .int .i64 n.state, .int .i64 n.mn, .int .i64 n.mx]
def flatN (l : List Nd) : List Value := l.flatMap Nd.cells
theorem flatN_len (l : List Nd) : (flatN l).length = l.length * 8 := by
  unfold flatN
  induction l with
  | nil => rfl
  | cons a l ih => rw [List.flatMap_cons, List.length_append, ih, List.length_cons]; simp only [Nd.cells, List.length_cons, List.length_nil]; omega
theorem flatN_get : ∀ (l : List Nd) (k j : Nat) (hk : k < l.length), j < 8 → (flatN l)[k * 8 + j]? = (l[k].cells)[j]?
  | a :: l, 0, j, _, hj => by
    unfold flatN
    rw [List.flatMap_cons, Nat.zero_mul, Nat.zero_add, List.getElem?_append_left (by simpa [Nd.cells] using hj)]
    rfl
  | a :: l, k + 1, j, hk, hj => by
    have ih := flatN_get l k j (by simpa using hk) hj
    unfold flatN at ih ⊢
    rw [List.flatMap_cons, List.getElem?_append_right (by simp only [Nd.cells, List.length_cons, List.length_nil]; omega)]
    have e : (k + 1) * 8 + j - a.cells.length = k * 8 + j := by simp only [Nd.cells, List.length_cons, List.length_nil]; omega
    rw [e, ih]
    rfl
def Nds (w : World) (B : Nat) (A : Option Addr) (l : List Nd) : Prop := Reads w B 8 A l.length (flatN l)
theorem Nds.below {w w' : World} {B : Nat} {A : Option Addr} {l : List Nd} (h : Nds w B A l) (hb : Below B w w') : Nds w' B A l := Reads.below h hb
theorem Nds.more {w : World} {B B' : Nat} {A : Option Addr} {l : List Nd} (h : Nds w B A l) (hb : B ≤ B') : Nds w B' A l := Reads.more h hb
/-- What a node's eight cells are. -/
structure NdAt (w : World) (b o : Nat) (n : Nd) : Prop where
  kind : w.cell? ⟨b, o, none⟩ = some (.int .i64 n.kind)
  depth : w.cell? ⟨b, o + 1, none⟩ = some (.int .i64 n.depth)
  sign : w.cell? ⟨b, o + 2, none⟩ = some (.int .i64 n.sign)
  turn : w.cell? ⟨b, o + 3, none⟩ = some (.int .i64 n.turn)
  mir : w.cell? ⟨b, o + 4, none⟩ = some (.bool n.mir)
  state : w.cell? ⟨b, o + 5, none⟩ = some (.int .i64 n.state)
  mn : w.cell? ⟨b, o + 6, none⟩ = some (.int .i64 n.mn)
  mx : w.cell? ⟨b, o + 7, none⟩ = some (.int .i64 n.mx)
theorem Nds.at {w : World} {B : Nat} {A : Option Addr} {l : List Nd} (h : Nds w B A l) (hl : 0 < l.length) :
    ∃ b o, A = some ⟨b, o, none⟩ ∧ b < B ∧ ∀ k (hk : k < l.length), NdAt w b (o + k * 8) l[k] := by
  obtain ⟨b, o, rfl, hb, hc⟩ := Reads.at0 h hl (by rw [flatN_len]; omega)
  refine ⟨b, o, rfl, hb, fun k hk => ?_⟩
  have hx : ∀ j u, j < 8 → (l[k].cells)[j]? = some u → w.cell? ⟨b, o + k * 8 + j, none⟩ = some u := fun j u hj hu => by
    rw [Nat.add_assoc]
    exact hc _ u (by rw [flatN_get l k j hk hj]; exact hu)
  exact ⟨hx 0 _ (by omega) rfl, hx 1 _ (by omega) rfl, hx 2 _ (by omega) rfl, hx 3 _ (by omega) rfl, hx 4 _ (by omega) rfl, hx 5 _ (by omega) rfl, hx 6 _ (by omega) rfl, hx 7 _ (by omega) rfl⟩
theorem NdAt.below {w w' : World} {B b o : Nat} {n : Nd} (h : NdAt w b o n) (hb : Below B w w') (hB : b < B) : NdAt w' b o n :=
  have c : ∀ j, w'.cell? ⟨b, j, none⟩ = w.cell? ⟨b, j, none⟩ := fun j => hb.cell (p := ⟨b, j, none⟩) hB
  ⟨(c _).trans h.kind, (c _).trans h.depth, (c _).trans h.sign, (c _).trans h.turn, (c _).trans h.mir, (c _).trans h.state, (c _).trans h.mn, (c _).trans h.mx⟩
def dep (l : List Nd) (i : Nat) : Int := match l[i]? with
  | some n => n.depth
  | none => 0
theorem dep_at {l : List Nd} {i : Nat} (h : i < l.length) : dep l i = l[i].depth := by
  unfold dep
  rw [List.getElem?_eq_getElem h]
/-- The first node behind a node and all below it: at k, if all between are below it. -/
def endR (l : List Nd) (d : Int) : Nat → Nat → Nat
  | 0, k => k
  | f + 1, k => if k < l.length ∧ d < dep l k then endR l d f (k + 1) else k
def endOf (l : List Nd) (i : Nat) : Nat := endR l (dep l i) l.length (i + 1)
theorem endR_stop {l : List Nd} {d : Int} {k : Nat} (h : ¬ (k < l.length ∧ d < dep l k)) : ∀ f, endR l d f k = k
  | 0 => rfl
  | _ + 1 => if_neg h
theorem endR_fuel {l : List Nd} {d : Int} : ∀ (f g k : Nat), l.length ≤ f + k → l.length ≤ g + k → endR l d f k = endR l d g k
  | 0, g, k, h, _ => by rw [endR_stop (by omega), endR_stop (by omega)]
  | f + 1, 0, k, _, h => by rw [endR_stop (by omega), endR_stop (by omega)]
  | f + 1, g + 1, k, h1, h2 => by
    by_cases h : k < l.length ∧ d < dep l k
    · rw [endR, endR, if_pos h, if_pos h]
      exact endR_fuel f g (k + 1) (by omega) (by omega)
    · rw [endR_stop h, endR_stop h]
/-- From k on. -/
def endFrom (l : List Nd) (d : Int) (k : Nat) : Nat := endR l d l.length k
theorem endFrom_s {l : List Nd} {d : Int} {k : Nat} (h : k < l.length) (h2 : d < dep l k) : endFrom l d k = endFrom l d (k + 1) := by
  unfold endFrom
  rw [endR_fuel l.length (l.length + 1) k (by omega) (by omega), endR, if_pos ⟨h, h2⟩]
theorem endFrom_stop {l : List Nd} {d : Int} {k : Nat} (h : ¬ (k < l.length ∧ d < dep l k)) : endFrom l d k = k := endR_stop h _
theorem endR_ge {l : List Nd} {d : Int} : ∀ (f k : Nat), k ≤ endR l d f k
  | 0, k => Nat.le_refl _
  | f + 1, k => by
    unfold endR
    split
    · exact Nat.le_trans (Nat.le_succ k) (endR_ge f (k + 1))
    · exact Nat.le_refl _
theorem endR_le {l : List Nd} {d : Int} : ∀ (f k : Nat), k ≤ l.length → endR l d f k ≤ l.length
  | 0, k, h => h
  | f + 1, k, h => by
    unfold endR
    split
    · rename_i h2
      exact endR_le f (k + 1) (by omega)
    · exact h
theorem endOf_gt (l : List Nd) (i : Nat) : i < endOf l i := endR_ge _ _
theorem endOf_le {l : List Nd} {i : Nat} (h : i < l.length) : endOf l i ≤ l.length := endR_le _ _ (by omega)
set_option maxRecDepth 100000 in
set_option maxHeartbeats 1000000 in
theorem end_any (l : List Nd) (i : Nat) (hi : i < l.length) (hl : l.length ≤ 1000000) (A : Option Addr) (c : Nat) (w : World) (B : Nat) (r : Nds w B A l) :
    Calls Tryz.prog 73 #[.slice A l.length c, .int .i64 i] w fun e w' => e = .returned (.int .i64 (endOf l i)) ∧ ∃ q, w' = w.drewN q := by
  obtain ⟨b, o, rfl, _, hc⟩ := r.at (by omega)
  have pi := (hc i hi).depth
  rw [← dep_at hi] at pi
  obtain ⟨n, hn⟩ : ∃ n, n = l.length := ⟨_, rfl⟩
  rw [← hn] at hi hl ⊢
  have hend : endOf l i = endFrom l (dep l i) (i + 1) := rfl
  obtain ⟨d, hd⟩ : ∃ d, d = dep l i := ⟨_, rfl⟩
  rw [← hd] at pi hend
  have HC := hid hc; have Hn := hid hn; have HE := hid hend; have HD := hid hd
  have q0 : (i : Int) < (n : Int) := by omega
  clear hc hn hend hd r
  go_enter Tryz.func73, Tryz.ntmps73
  go_wp2_with fail
  go_loopw [5] (fun kv wr => ∃ k : Nat, k ≤ n ∧ kv = .int .i64 k ∧ Hid (endFrom l d k = endOf l i) ∧ ∃ q, wr = w.drewN q) (fun kv _ => n - (intOf kv).toNat)
  case atStart => exact ⟨i + 1, by omega, by go_num, HE.out.symm, 0, rfl⟩
  case round =>
    obtain ⟨k, hk, rfl, hE, q, rfl⟩ := hrel
    by_cases hkn : k < n
    · have hkl : k < l.length := by rw [← Hn.out]; exact hkn
      have pk := (HC.out k hkl).depth
      rw [← dep_at hkl] at pk
      have hs := endFrom_s (d := d) hkl
      have hp : ¬ d < dep l k → endFrom l d k = k := fun h => endFrom_stop (fun h2 => h h2.2)
      rw [hE.out] at hs hp
      generalize dep l k = dk at pk hs hp
      have q1 : (k : Int) < (n : Int) := by omega
      by_cases hdk : d < dk
      · have e1 : decide (d < dk) = true := decide_eq_true hdk
        have HX := hid (hs hdk).symm
        clear hs hp hdk hE
        go_wp2_with fail
        go_quiet (fail)
        go_wp2_with fail
        go_roundw
        case rel => exact ⟨k + 1, by omega, by go_num, HX.out, _, by first | rfl | exact World.drewN_drewN _ _ _⟩
        case measure => simp [intOf]; omega
      · have e1 : decide (d < dk) = false := decide_eq_false hdk
        have HX := hid (hp hdk)
        clear hs hp hdk hE
        go_wp2_with fail
        go_quiet (fail)
        go_wp2_with fail
        go_ret
        exact ⟨by rw [HX.out]; rfl, _, by first | rfl | exact World.drewN_drewN _ _ _⟩
    · obtain rfl : n = k := by omega
      have hx := endFrom_stop (l := l) (d := d) (k := n) (by rw [← Hn.out]; omega)
      rw [hE.out] at hx
      have HX := hid hx
      clear hx hE
      have q2 : decide (n < n) = false := by simp
      go_wp2_with fail
      go_quiet (fail)
      go_wp2_with fail
      go_ret
      exact ⟨by rw [HX.out]; rfl, _, by first | rfl | exact World.drewN_drewN _ _ _⟩
end Go.Proofs.YtimblabaeclhpaaGreat
