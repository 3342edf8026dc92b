/- THE PLAIN LAW OF Apart: what two copies and a limit answer, and the test of two tallies as numbers. -/
import Derived.Test.YtoljnbbhoeloeaaFish
import Derived.Test.YtoljnbbhoeloeaaCostW2
namespace Go.Proofs.Ytoljnbbhoeloeaa
open Go.RowKit
abbrev Two := (Int × Int) × (Int × Int)
def fairX (x : Two) : Prop := Fair x.1.1 x.1.2 x.2.1 x.2.2
instance (x : Two) : Decidable (fairX x) := by unfold fairX; exact inferInstance
def nX (x : Two) : Nat := (fNumI x.1.1 x.1.2 x.2.1 x.2.2).toNat
def dX (x : Two) : Nat := (fDenI x.1.1 x.1.2 x.2.1 x.2.2).toNat
/-- Whether the chance of two tallies is at most n / d. -/
def low2 (n d : Nat) (x : Two) : Bool := decide (nX x * d ≤ n * dX x)
def tlErr (a b : List (Int × Int)) (n d : Int) : Int := if (a.length = b.length ∧ 1 ≤ a.length ∧ a.length ≤ 12) ∧ ∀ x ∈ a.zip b, fairX x then (if 1 ≤ d ∧ d ≤ 10000 ∧ 0 ≤ n ∧ n ≤ d then 0 else 1) else 80
def tlIs (a b : List (Int × Int)) (n d : Int) : Bool := if tlErr a b n d = 0 then (a.zip b).any (low2 n.toNat d.toNat) else false
theorem two60 {m o : Nat} (h : m + o ≤ 60) (r : Nat) : fDen m o r ≤ 2 ^ 60 := Nat.le_trans (fDen_le m o r) (Nat.pow_le_pow_right (by omega) h)
theorem nd_at {a1 a2 b1 b2 : Int} (h : Fair a1 a2 b1 b2) : ∃ m o r x : Nat, fRes a1 a2 b1 b2 = .tuple #[frac (fNum m o r x) (fDen m o r), .int .i64 0] ∧ frac (fNum m o r x) (fDen m o r) = .agg #[.int .i64 (nX ((a1, a2), (b1, b2))), .int .i64 (dX ((a1, a2), (b1, b2)))] ∧ nX ((a1, a2), (b1, b2)) ≤ 2 ^ 60 ∧ dX ((a1, a2), (b1, b2)) ≤ 2 ^ 60 := by
  obtain ⟨x1, x2, y1, y2, m, o, r, rfl, rfl, rfl, rfl, hm, ho, hr, hf⟩ := fair_nat h
  have e := fRes_yes hm ho hr hf
  refine ⟨m, o, r, x1, e, ?_⟩
  unfold fRes frac at e
  simp at e
  obtain ⟨⟨e1, e2⟩, _⟩ := e
  rw [← Int.natCast_ediv] at e1 e2
  have n1 : nX ((↑x1, ↑x2), (↑y1, ↑y2)) = fNum m o r x1 / Nat.gcd (fNum m o r x1) (fDen m o r) := by
    simp only [nX]; rw [e1]; exact Int.toNat_natCast _
  have n2 : dX ((↑x1, ↑x2), (↑y1, ↑y2)) = fDen m o r / Nat.gcd (fNum m o r x1) (fDen m o r) := by
    simp only [dX]; rw [e2]; exact Int.toNat_natCast _
  rw [n1, n2]
  refine ⟨rfl, ?_, ?_⟩
  · exact Nat.le_trans (Nat.div_le_self _ _) (Nat.le_trans (fNum_le m o r x1) (two60 hf r))
  · exact Nat.le_trans (Nat.div_le_self _ _) (two60 hf r)
theorem nX_le {x : Two} (h : fairX x) : nX x ≤ 2 ^ 60 := by
  obtain ⟨_, _, _, _, _, _, h1, _⟩ := nd_at h
  exact h1
theorem dX_le {x : Two} (h : fairX x) : dX x ≤ 2 ^ 60 := by
  obtain ⟨_, _, _, _, _, _, _, h1⟩ := nd_at h
  exact h1
theorem fisher_at {a1 a2 b1 b2 : Int} (h : Fair a1 a2 b1 b2) (w : World) :
    Calls Try.prog 54 #[.agg #[.int .i64 a1, .int .i64 a2], .agg #[.int .i64 b1, .int .i64 b2]] w fun e w' =>
      e = .returned (.agg #[.int .i64 (nX ((a1, a2), (b1, b2))), .int .i64 (dX ((a1, a2), (b1, b2)))]) ∧ Below w.heap.size w w' := by
  obtain ⟨x1, x2, y1, y2, m, o, r, rfl, rfl, rfl, rfl, hm, ho, hr, hf⟩ := fair_nat h
  obtain ⟨m', o', r', x', e1, e2, _⟩ := nd_at h
  have e := (fRes_yes hm ho hr hf).symm.trans e1
  have e3 : frac (fNum m o r x1) (fDen m o r) = frac (fNum m' o' r' x') (fDen m' o' r') := by simpa using e
  rw [← e2, ← e3]
  exact fisher_any x1 x2 y1 y2 m o r hm ho hr hf w
theorem ref_fisher_at {a1 a2 b1 b2 : Int} (h : Fair a1 a2 b1 b2) (w : World) :
    Calls Try.prog 22 #[.agg #[.int .i64 a1, .int .i64 a2], .agg #[.int .i64 b1, .int .i64 b2]] w fun e w' =>
      e = .returned (.tuple #[.agg #[.int .i64 (nX ((a1, a2), (b1, b2))), .int .i64 (dX ((a1, a2), (b1, b2)))], .int .i64 0]) ∧ Below w.heap.size w w' := by
  obtain ⟨m', o', r', x', e1, e2, _⟩ := nd_at h
  rw [← e2, ← e1]
  exact ref_fisher_call a1 a2 b1 b2 w
theorem zip_at {a b : List (Int × Int)} {k : Nat} (h1 : k < a.length) (h2 : k < b.length) : (a.zip b)[k]? = some (a[k], b[k]) := by
  rw [List.getElem?_eq_getElem (by simp only [List.length_zip]; omega), List.getElem_zip]
theorem zip_all {a b : List (Int × Int)} {p : Two → Prop} (hl : a.length = b.length) (h : ∀ j (hj : j < a.length), p (a[j], b[j]'(hl ▸ hj))) : ∀ x ∈ a.zip b, p x := fun x hx => by
  obtain ⟨j, hj, rfl⟩ := List.mem_iff_getElem.1 hx
  rw [List.getElem_zip]
  exact h j (by simp at hj; omega)
theorem tl_80 {a b : List (Int × Int)} {n d : Int} (h : ¬ (a.length = b.length ∧ 1 ≤ a.length ∧ a.length ≤ 12)) : tlErr a b n d = 80 ∧ tlIs a b n d = false := by
  have h1 : tlErr a b n d = 80 := if_neg fun h' => h h'.1
  exact ⟨h1, by unfold tlIs; rw [h1]; rfl⟩
theorem tl_80x {a b : List (Int × Int)} {n d : Int} {k : Nat} (h1 : k < a.length) (h2 : k < b.length) (h : ¬ fairX (a[k], b[k])) : tlErr a b n d = 80 ∧ tlIs a b n d = false := by
  have h1 : tlErr a b n d = 80 := if_neg fun h' => h (h'.2 _ (List.mem_of_getElem? (zip_at h1 h2)))
  exact ⟨h1, by unfold tlIs; rw [h1]; rfl⟩
theorem tl_1 {a b : List (Int × Int)} {n d : Int} (h : (a.length = b.length ∧ 1 ≤ a.length ∧ a.length ≤ 12)) (hf : ∀ j (hj : j < a.length) (hj' : j < b.length), fairX (a[j], b[j])) (hn : ¬ (1 ≤ d ∧ d ≤ 10000 ∧ 0 ≤ n ∧ n ≤ d)) : tlErr a b n d = 1 ∧ tlIs a b n d = false := by
  have h1 : tlErr a b n d = 1 := (if_pos ⟨h, zip_all h.1 fun j hj => hf j hj (h.1 ▸ hj)⟩).trans (if_neg hn)
  exact ⟨h1, by unfold tlIs; rw [h1]; rfl⟩
theorem tl_0 {a b : List (Int × Int)} {n d : Nat} (h : (a.length = b.length ∧ 1 ≤ a.length ∧ a.length ≤ 12)) (hf : ∀ j (hj : j < a.length) (hj' : j < b.length), fairX (a[j], b[j])) (hn : 1 ≤ d ∧ d ≤ 10000 ∧ n ≤ d) : tlErr a b n d = 0 ∧ tlIs a b n d = (a.zip b).any (low2 n d) := by
  have h1 : tlErr a b n d = 0 := (if_pos ⟨h, zip_all h.1 fun j hj => hf j hj (h.1 ▸ hj)⟩).trans (if_pos (by omega))
  exact ⟨h1, by unfold tlIs; rw [if_pos h1]; rfl⟩
theorem any_yes {a b : List (Int × Int)} {n d k : Nat} (h1 : k < a.length) (h2 : k < b.length) (h : low2 n d (a[k], b[k]) = true) : (a.zip b).any (low2 n d) = true :=
  List.any_eq_true.2 ⟨_, List.mem_of_getElem? (zip_at h1 h2), h⟩
theorem any_no {a b : List (Int × Int)} {n d : Nat} (hl : a.length = b.length) (h : ∀ j (hj : j < a.length) (hj' : j < b.length), low2 n d (a[j], b[j]) = false) : (a.zip b).any (low2 n d) = false := by
  rw [Bool.eq_false_iff]
  intro hx
  obtain ⟨x, hx, hy⟩ := List.any_eq_true.1 hx
  have := zip_all (p := fun x => low2 n d x = false) hl (fun j hj => h j hj (hl ▸ hj)) x hx
  rw [this] at hy
  cases hy
theorem any_step {a b : List (Int × Int)} {n d k : Nat} (h1 : k < a.length) (h2 : k < b.length) : ((a.zip b).take (k + 1)).any (low2 n d) = (((a.zip b).take k).any (low2 n d) || low2 n d (a[k], b[k])) := by
  rw [List.take_add_one, zip_at h1 h2]; simp
end Go.Proofs.Ytoljnbbhoeloeaa
