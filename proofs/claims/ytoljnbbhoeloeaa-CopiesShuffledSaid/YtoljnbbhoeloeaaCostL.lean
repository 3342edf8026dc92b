/- PLAIN: what costOf computes, step by step, and what follows for alignments. No program in sight. -/
import Derived.Test.YtoljnbbhoeloeaaAln
namespace Go.Proofs.Ytoljnbbhoeloeaa
abbrev St3 := Nat × Nat × Nat
/-- One pair. -/
def stp (a b : List Int) (s : St3) (p : Int × Int) : Option St3 :=
  if (p.1 = -1 ∧ p.2 = -1) ∨ (p.1 ≠ -1 ∧ p.1 ≠ (s.1 : Int)) ∨ (p.2 ≠ -1 ∧ p.2 ≠ (s.2.1 : Int)) then none
  else if p.1 = -1 then (if b.length ≤ s.2.1 then none else some (s.1, s.2.1 + 1, s.2.2 + 2))
  else if p.2 = -1 then (if a.length ≤ s.1 then none else some (s.1 + 1, s.2.1, s.2.2 + 2))
  else if a.length ≤ s.1 ∨ b.length ≤ s.2.1 then none
  else some (s.1 + 1, s.2.1 + 1, s.2.2 + bc (a.getD s.1 0) (b.getD s.2.1 0))
section
variable {a b : List Int} {x y z : Nat} {l r : Int}
theorem stp_no (h : (l = -1 ∧ r = -1) ∨ (l ≠ -1 ∧ l ≠ (x : Int)) ∨ (r ≠ -1 ∧ r ≠ (y : Int))) : stp a b (x, y, z) (l, r) = none := if_pos h
theorem stp_right (h : y < b.length) : stp a b (x, y, z) (-1, (y : Int)) = some (x, y + 1, z + 2) := by
  unfold stp; simp only; rw [if_neg (by omega), if_pos trivial, if_neg (by omega)]
theorem stp_right_no (h : b.length ≤ y) : stp a b (x, y, z) (-1, (y : Int)) = none := by
  unfold stp; simp only; rw [if_neg (by omega), if_pos trivial, if_pos (by omega)]
theorem stp_left (h : x < a.length) : stp a b (x, y, z) ((x : Int), -1) = some (x + 1, y, z + 2) := by
  unfold stp; simp only; rw [if_neg (by omega), if_neg (by omega), if_pos trivial, if_neg (by omega)]
theorem stp_left_no (h : a.length ≤ x) : stp a b (x, y, z) ((x : Int), -1) = none := by
  unfold stp; simp only; rw [if_neg (by omega), if_neg (by omega), if_pos trivial, if_pos (by omega)]
theorem stp_both (hx : x < a.length) (hy : y < b.length) : stp a b (x, y, z) ((x : Int), (y : Int)) = some (x + 1, y + 1, z + bc (a.getD x 0) (b.getD y 0)) := by
  unfold stp; simp only; rw [if_neg (by omega), if_neg (by omega), if_neg (by omega), if_neg (by omega)]
theorem stp_both_no (h : a.length ≤ x ∨ b.length ≤ y) : stp a b (x, y, z) ((x : Int), (y : Int)) = none := by
  unfold stp; simp only; rw [if_neg (by omega), if_neg (by omega), if_neg (by omega), if_pos (by omega)]
end
def cst (a b : List Int) (ps : List (Int × Int)) (s : St3) : Option St3 := ps.foldlM (stp a b) s
theorem cst_nil (a b : List Int) (s : St3) : cst a b [] s = some s := rfl
theorem cst_cons (a b : List Int) (p : Int × Int) (ps : List (Int × Int)) (s : St3) : cst a b (p :: ps) s = (stp a b s p).bind (cst a b ps) := by
  unfold cst
  rw [List.foldlM_cons]
  cases stp a b s p <;> rfl
theorem cst_append (a b : List Int) : ∀ (ps qs : List (Int × Int)) (s : St3), cst a b (ps ++ qs) s = (cst a b ps s).bind (cst a b qs)
  | [], qs, s => rfl
  | p :: ps, qs, s => by
    rw [List.cons_append, cst_cons, cst_cons]
    cases h : stp a b s p with
    | none => rfl
    | some t => exact cst_append a b ps qs t
theorem cst_take {a b : List Int} {ps : List (Int × Int)} {j : Nat} {s t : St3} (hj : j < ps.length) (h : cst a b (ps.take j) s = some t) : cst a b (ps.take (j + 1)) s = stp a b t ps[j] := by
  rw [show ps.take (j + 1) = ps.take j ++ [ps[j]] by rw [List.take_add_one, List.getElem?_eq_getElem hj]; rfl, cst_append, h]
  show cst a b [ps[j]] t = _
  rw [cst_cons]
  cases stp a b t ps[j] <;> rfl
theorem cst_fail {a b : List Int} {ps : List (Int × Int)} {j : Nat} {s : St3} (h : cst a b (ps.take j) s = none) : cst a b ps s = none := by
  conv => lhs; rw [← List.take_append_drop j ps]
  rw [cst_append, h]; rfl
/-- The cost, and whether the pairs are an alignment. -/
def cOf (a b : List Int) (ps : List (Int × Int)) : Int := match cst a b ps (0, 0, 0) with | none => 0 | some t => (t.2.2 : Nat)
def cIs (a b : List Int) (ps : List (Int × Int)) : Bool := match cst a b ps (0, 0, 0) with | none => false | some t => decide (t.1 = a.length) && decide (t.2.1 = b.length)
theorem cost_cst (a b : List Int) : ∀ (ps : List (Int × Int)) (i k c : Nat), i ≤ a.length → k ≤ b.length →
    (costOf ps i k (a.drop i) (b.drop k)).map (· + c) = (cst a b ps (i, k, c)).bind fun t => if t.1 = a.length ∧ t.2.1 = b.length then some t.2.2 else none
  | [], i, k, c, hi, hk => by
    rw [cst_nil, costOf]
    simp only [List.isEmpty_iff, Bool.and_eq_true, List.drop_eq_nil_iff, Option.bind_some]
    by_cases h : i = a.length ∧ k = b.length
    · rw [if_pos h, if_pos (by omega)]; simp
    · rw [if_neg h, if_neg (by omega)]; simp
  | (l, r) :: ps, i, k, c, hi, hk => by
    rw [cst_cons, costOf, stp]
    simp only
    by_cases h1 : l = -1 ∧ r = -1
    · rw [if_pos h1, if_pos (.inl h1)]; rfl
    · rw [if_neg h1]
      by_cases h2 : l ≠ -1 ∧ l ≠ (i : Int) ∨ r ≠ -1 ∧ r ≠ (k : Int)
      · rw [if_pos h2, if_pos (.inr h2)]; rfl
      · have h12 : ¬ ((l = -1 ∧ r = -1) ∨ (l ≠ -1 ∧ l ≠ (i : Int)) ∨ (r ≠ -1 ∧ r ≠ (k : Int))) := fun h => h.elim h1 h2
        rw [if_neg h2, if_neg h12]
        by_cases h3 : l = -1
        · rw [if_pos h3, if_pos h3]
          by_cases h4 : b.length ≤ k
          · rw [if_pos h4, if_pos (by simp [List.isEmpty_iff]; omega)]; rfl
          · rw [if_neg h4, if_neg (by simp [List.isEmpty_iff]; omega), List.tail_drop]
            have := cost_cst a b ps i (k + 1) (c + 2) hi (by omega)
            simp only [Option.bind_some]
            rw [← this, Option.map_map]
            congr 1; funext x; simp; omega
        · rw [if_neg h3, if_neg h3]
          by_cases h5 : r = -1
          · rw [if_pos h5, if_pos h5]
            by_cases h4 : a.length ≤ i
            · rw [if_pos h4, if_pos (by simp [List.isEmpty_iff]; omega)]; rfl
            · rw [if_neg h4, if_neg (by simp [List.isEmpty_iff]; omega), List.tail_drop]
              have := cost_cst a b ps (i + 1) k (c + 2) (by omega) hk
              simp only [Option.bind_some]
              rw [← this, Option.map_map]
              congr 1; funext x; simp; omega
          · rw [if_neg h5, if_neg h5]
            by_cases h4 : a.length ≤ i ∨ b.length ≤ k
            · rw [if_pos h4, if_pos (by simp [List.isEmpty_iff]; omega)]; rfl
            · rw [if_neg h4, if_neg (by simp [List.isEmpty_iff]; omega), List.tail_drop, List.tail_drop]
              have ea : (a.drop i).headD 0 = a.getD i 0 := by rw [List.drop_eq_getElem_cons (by omega)]; simp [List.getD, show i < a.length by omega]
              have eb : (b.drop k).headD 0 = b.getD k 0 := by rw [List.drop_eq_getElem_cons (by omega)]; simp [List.getD, show k < b.length by omega]
              have := cost_cst a b ps (i + 1) (k + 1) (c + bc (a.getD i 0) (b.getD k 0)) (by omega) (by omega)
              simp only [Option.bind_some]
              rw [← this, Option.map_map, ea, eb]
              congr 1; funext x; simp; omega
theorem cost_is {a b : List Int} {ps : List (Int × Int)} {c : Nat} (h : costOf ps 0 0 a b = some c) : cIs a b ps = true ∧ cOf a b ps = c := by
  have := cost_cst a b ps 0 0 0 (Nat.zero_le _) (Nat.zero_le _)
  rw [List.drop_zero, List.drop_zero, h] at this
  unfold cIs cOf
  cases ht : cst a b ps (0, 0, 0) with
  | none => rw [ht] at this; simp at this
  | some t =>
    rw [ht] at this
    simp only [Option.map_some, Option.bind_some] at this
    by_cases h2 : t.1 = a.length ∧ t.2.1 = b.length
    · rw [if_pos h2] at this
      simp at this
      exact ⟨by simp [h2.1, h2.2], by simp [this]⟩
    · rw [if_neg h2] at this; simp at this
theorem cost_own (a b : List Int) : cIs a b (pairsOf a b) = true ∧ cOf a b (pairsOf a b) = (D a b : Nat) := cost_is (tr_cost _ 0 0 a b (Nat.le_refl _))
theorem cost_least {a b : List Int} {ps : List (Int × Int)} (h : cIs a b ps = true) : (D a b : Int) ≤ cOf a b ps := by
  have := cost_cst a b ps 0 0 0 (Nat.zero_le _) (Nat.zero_le _)
  rw [List.drop_zero, List.drop_zero] at this
  unfold cIs at h
  unfold cOf
  cases ht : cst a b ps (0, 0, 0) with
  | none => rw [ht] at h; simp at h
  | some t =>
    rw [ht] at this h
    simp only [Bool.and_eq_true, decide_eq_true_eq] at h
    simp only [Option.bind_some] at this
    rw [if_pos h] at this
    cases hc : costOf ps 0 0 a b with
    | none => rw [hc] at this; simp at this
    | some c =>
      rw [hc] at this
      simp at this
      have := least ps 0 0 a b c hc
      simp; omega
theorem D_same (a b : List Int) : D a b = 0 ↔ a = b := ⟨D_zero a b, fun h => by rw [h]; exact D_self b⟩
end Go.Proofs.Ytoljnbbhoeloeaa
