/- PLAIN LAW: the error of a text. -/
import Derived.Test.YtimblabaeclhpaaGreatSgn2
import Derived.Test.YtimblabaeclhpaaGreatOwn
namespace Go.Proofs.YtimblabaeclhpaaGreat
theorem ndE_zero {N : Nat} {ev : Bool} {most : Int} {n : Nd} (h : ndE N ev most n = 0) : (1 ≤ n.kind ∧ n.kind ≤ 7) ∧ (0 ≤ n.depth ∧ n.depth ≤ 4) ∧ n.depth ≤ most := by
  unfold ndE at h
  split at h
  · omega
  · split at h
    · omega
    · omega
theorem own_zero {ss : List Sg} {l : List Nd} {i : Nat} (hi : i < l.length) (h : ownE ss l i = 0) : (1 ≤ kd l i ∧ kd l i ≤ 7) ∧ (0 ≤ dep l i ∧ dep l i ≤ 4) ∧ dep l i ≤ mostOf l i := by
  have h2 := ndE_zero h
  rw [nd_at hi] at h2
  rw [kd_at hi, dep_at hi]
  exact h2
structure Good (l : List Nd) : Prop where
  wf : WfN l
  kinds : ∀ i, i < l.length → 1 ≤ kd l i ∧ kd l i ≤ 7
  deps : ∀ i, i < l.length → 0 ≤ dep l i ∧ dep l i ≤ 4
theorem good_of {ss : List Sg} {l : List Nd} (h : firstE (ownE ss l) l.length = 0) : Good l := by
  have hz := fun i (hi : i < l.length) => own_zero hi (firstE_get h i hi)
  refine ⟨⟨?_, fun i hi => (hz i hi).2.1.1, fun i hi => ?_, fun i hi hl => ?_⟩, fun i hi => (hz i hi).1, fun i hi => (hz i hi).2.1⟩
  · by_cases h0 : 0 < l.length
    · have := hz 0 h0
      have hm : mostOf l 0 = 0 := rfl
      omega
    · unfold dep
      rw [List.getElem?_eq_none (by omega)]
  · have := (hz (i + 1) hi).2.2
    unfold mostOf at this
    rw [if_neg (by omega), Nat.add_sub_cancel] at this
    split at this <;> omega
  · have := (hz (i + 1) hi).2.2
    unfold mostOf at this
    rw [if_neg (by omega), Nat.add_sub_cancel, if_pos hl] at this
    exact this
open Classical in
/-- The error of a text: P2.1. -/
noncomputable def chkE (P : Int) (ss : List Sg) (l : List Nd) : Int :=
  if listE P ss ≠ 0 then listE P ss else if 200 < l.length then 2 else if firstE (ownE ss l) l.length ≠ 0 then firstE (ownE ss l) l.length else if ∀ i, i < l.length → famRs l i then 0 else 20
theorem chkE_list {P : Int} {ss : List Sg} {l : List Nd} (h : listE P ss ≠ 0) : chkE P ss l = listE P ss := if_pos h
theorem chkE_many {P : Int} {ss : List Sg} {l : List Nd} (h : listE P ss = 0) (h2 : 200 < l.length) : chkE P ss l = 2 := by unfold chkE; rw [if_neg (by simp [h]), if_pos h2]
theorem chkE_own {P : Int} {ss : List Sg} {l : List Nd} (h : listE P ss = 0) (h2 : ¬ 200 < l.length) (h3 : firstE (ownE ss l) l.length ≠ 0) : chkE P ss l = firstE (ownE ss l) l.length := by
  unfold chkE; rw [if_neg (by simp [h]), if_neg h2, if_pos h3]
theorem chkE_fam {P : Int} {ss : List Sg} {l : List Nd} (h : listE P ss = 0) (h2 : ¬ 200 < l.length) (h3 : firstE (ownE ss l) l.length = 0) (h4 : ¬ ∀ i, i < l.length → famRs l i) : chkE P ss l = 20 := by
  unfold chkE; rw [if_neg (by simp [h]), if_neg h2, if_neg (by simp [h3]), if_neg h4]
theorem chkE_ok {P : Int} {ss : List Sg} {l : List Nd} (h : listE P ss = 0) (h2 : ¬ 200 < l.length) (h3 : firstE (ownE ss l) l.length = 0) (h4 : ∀ i, i < l.length → famRs l i) : chkE P ss l = 0 := by
  unfold chkE; rw [if_neg (by simp [h]), if_neg h2, if_neg (by simp [h3]), if_pos h4]
theorem chkE_zero {P : Int} {ss : List Sg} {l : List Nd} (h : chkE P ss l = 0) : listE P ss = 0 ∧ l.length ≤ 200 ∧ firstE (ownE ss l) l.length = 0 ∧ ∀ i, i < l.length → famRs l i := by
  by_cases h1 : listE P ss = 0
  · by_cases h2 : 200 < l.length
    · rw [chkE_many h1 h2] at h; omega
    · by_cases h3 : firstE (ownE ss l) l.length = 0
      · by_cases h4 : ∀ i, i < l.length → famRs l i
        · exact ⟨h1, by omega, h3, h4⟩
        · rw [chkE_fam h1 h2 h3 h4] at h; omega
      · rw [chkE_own h1 h2 h3] at h; exact absurd h h3
  · rw [chkE_list h1] at h; exact absurd h h1
theorem Good.fam {l : List Nd} (h : Good l) : (∀ i, i < l.length → famPs l i) ↔ (∀ i, i < l.length → famRs l i) := fam_law h.wf h.kinds
end Go.Proofs.YtimblabaeclhpaaGreat
