/- PLAIN LAW: some groups of a text are replaced. -/
import Derived.Test.YtddbnggficlcfaaPart
namespace Go.Proofs.Ytddbnggficlcfaa
/-- Where group i begins; behind the last: the end of the text. -/
def posG (l : List Nd) (i : Nat) : Nat := (kidsOf l (-1) ++ [l.length]).getD i l.length
theorem kf_pos {l : List Nd} : ∀ (m k : Nat), l.length ≤ m + k → k ≤ l.length →
    (kidsFrom l l.length k ++ [l.length])[0]? = some k ∧ ∀ i (h : i < (kidsFrom l l.length k).length), (kidsFrom l l.length k ++ [l.length])[i + 1]? = some (endOf l (kidsFrom l l.length k)[i])
  | 0, k, h1, h2 => by
    obtain rfl : k = l.length := by omega
    rw [kidsFrom_stop (by omega)]
    exact ⟨rfl, fun i h => by simp at h⟩
  | m + 1, k, h1, h2 => by
    by_cases h : k < l.length
    · have hgt := endOf_gt l k
      obtain ⟨a1, a2⟩ := kf_pos (l := l) m (endOf l k) (by omega) (endOf_le h)
      rw [kidsFrom_s h]
      refine ⟨rfl, fun i hi => ?_⟩
      cases i with
      | zero =>
        rw [List.cons_append, List.getElem?_cons_succ, a1]
        rfl
      | succ i =>
        rw [List.cons_append, List.getElem?_cons_succ, a2 i (by simpa using hi)]
        rfl
    · rw [kidsFrom_stop h]
      obtain rfl : k = l.length := by omega
      exact ⟨rfl, fun i h => by simp at h⟩
theorem kidsOf_top (l : List Nd) : kidsOf l (-1) = kidsFrom l l.length 0 := rfl
theorem posG_0 (l : List Nd) : posG l 0 = 0 := by
  unfold posG
  rw [kidsOf_top, List.getD_eq_getElem?_getD, (kf_pos (l := l) l.length 0 (by omega) (by omega)).1]
  rfl
theorem posG_at {l : List Nd} {i : Nat} (h : i < (kidsOf l (-1)).length) : posG l i = (kidsOf l (-1))[i] := by
  unfold posG
  rw [List.getD_eq_getElem?_getD, List.getElem?_append_left h, List.getElem?_eq_getElem h]
  rfl
theorem posG_s {l : List Nd} {i : Nat} (h : i < (kidsOf l (-1)).length) : posG l (i + 1) = endOf l (posG l i) := by
  rw [posG_at h]
  unfold posG
  have hq : (kidsOf l (-1) ++ [l.length])[i + 1]? = some (endOf l (kidsOf l (-1))[i]) := (kf_pos (l := l) l.length 0 (by omega) (by omega)).2 i h
  rw [List.getD_eq_getElem?_getD, hq]
  rfl
theorem posG_end (l : List Nd) : posG l (kidsOf l (-1)).length = l.length := by
  unfold posG
  rw [List.getD_eq_getElem?_getD, List.getElem?_append_right (Nat.le_refl _)]
  simp
theorem posG_lt {l : List Nd} {i : Nat} (h : i < (kidsOf l (-1)).length) : posG l i < l.length := by
  rw [posG_at h]
  have := (kidsOf_mem (l := l) (node := -1) (by omega) (by omega) (List.getElem_mem h)).2
  omega
theorem posG_le {l : List Nd} {i : Nat} (h : i ≤ (kidsOf l (-1)).length) : posG l i ≤ l.length := by
  rcases Nat.eq_or_lt_of_le h with rfl | h
  · rw [posG_end]; exact Nat.le_refl _
  · exact Nat.le_of_lt (posG_lt h)
theorem posG_mono {l : List Nd} {i : Nat} : ∀ n, i + n ≤ (kidsOf l (-1)).length → posG l i ≤ posG l (i + n)
  | 0, _ => Nat.le_refl _
  | n + 1, h => by
    refine Nat.le_trans (posG_mono n (by omega)) ?_
    rw [← Nat.add_assoc, posG_s (by omega)]
    exact Nat.le_of_lt (endOf_gt _ _)
theorem posG_mono' {l : List Nd} {i j : Nat} (h : i ≤ j) (hj : j ≤ (kidsOf l (-1)).length) : posG l i ≤ posG l j := by
  obtain ⟨n, rfl⟩ : ∃ n, j = i + n := ⟨j - i, by omega⟩
  exact posG_mono n hj
theorem subN_0 (l : List Nd) : l.map (subN 0) = l := by
  have : subN 0 = id := by funext n; simp [subN]
  rw [this, List.map_id]
/-- A group as a part. -/
theorem part_grp {l : List Nd} (hw : WfN l) {i : Nat} (h : i < (kidsOf l (-1)).length) : partOf l (posG l i) = (l.drop (posG l i)).take (posG l (i + 1) - posG l i) := by
  have hd : dep l (posG l i) = 0 := by
    rw [posG_at h]
    have hm := List.getElem_mem h
    generalize (kidsOf l (-1))[i] = x at hm
    rw [← rkids_eq hw (by omega) (by omega)] at hm
    unfold rkids rkFrom at hm
    rw [if_neg (by omega)] at hm
    exact (rk_mem _ _ _ hm).2.2.1
  unfold partOf prtL
  rw [hd, subN_0, posG_s h]
theorem take_grp {l : List Nd} (hw : WfN l) {i : Nat} (h : i < (kidsOf l (-1)).length) : l.take (posG l (i + 1)) = l.take (posG l i) ++ partOf l (posG l i) := by
  have hm := posG_mono (l := l) (i := i) 1 (by omega)
  rw [part_grp hw h]
  have e : posG l (i + 1) = posG l i + (posG l (i + 1) - posG l i) := by omega
  conv => lhs; rw [e, List.take_add]
/-- The document's way: the first k rounds. -/
def spR (l wt : List Nd) (fr t2 : Int) : Nat → List Nd
  | 0 => []
  | i + 1 => (if (i : Int) = fr then spR l wt fr t2 i ++ wt else spR l wt fr t2 i) ++ (if i < (kidsOf l (-1)).length ∧ ((i : Int) < fr ∨ t2 ≤ i) then partOf l (posG l i) else [])
theorem spR_s (l wt : List Nd) (fr t2 : Int) (i : Nat) : spR l wt fr t2 (i + 1) = (if (i : Int) = fr then spR l wt fr t2 i ++ wt else spR l wt fr t2 i) ++ (if i < (kidsOf l (-1)).length ∧ ((i : Int) < fr ∨ t2 ≤ i) then partOf l (posG l i) else []) := rfl
/-- The program's way. -/
def spO (l wt : List Nd) (f t : Nat) : List Nd := l.take (posG l f) ++ wt ++ l.drop (posG l t)
theorem spR_inv {l wt : List Nd} (hw : WfN l) {f t : Nat} (h1 : f ≤ t) (h2 : t ≤ (kidsOf l (-1)).length) : ∀ i, i ≤ (kidsOf l (-1)).length →
    spR l wt f t i = if i ≤ f then l.take (posG l i) else l.take (posG l f) ++ wt ++ (l.take (posG l i)).drop (posG l t)
  | 0, _ => by rw [if_pos (by omega), posG_0]; simp [spR]
  | i + 1, hi => by
    have ih := spR_inv hw (wt := wt) h1 h2 i (by omega)
    rw [spR_s, ih]
    have hg := take_grp hw (i := i) (by omega)
    rcases Nat.lt_trichotomy i f with h | h | h
    · rw [if_neg (show ¬ ((i : Int) = f) by omega), if_pos (show i ≤ f by omega), if_pos (show i < (kidsOf l (-1)).length ∧ ((i : Int) < f ∨ (t : Int) ≤ i) from ⟨by omega, .inl (by omega)⟩), if_pos (show i + 1 ≤ f by omega), hg]
    · subst h
      rw [if_pos rfl, if_pos (Nat.le_refl i), if_neg (show ¬ (i + 1 ≤ i) by omega)]
      congr 1
      by_cases ht : t = i
      · subst ht
        rw [if_pos (show t < (kidsOf l (-1)).length ∧ ((t : Int) < t ∨ (t : Int) ≤ t) from ⟨by omega, .inr (by omega)⟩), hg, List.drop_append]
        have := posG_le (l := l) (i := t) (by omega)
        simp [Nat.min_eq_left this]
      · rw [if_neg (show ¬ (i < (kidsOf l (-1)).length ∧ ((i : Int) < i ∨ (t : Int) ≤ i)) by omega), List.drop_eq_nil_of_le (by
          have := posG_mono' (l := l) (i := i + 1) (j := t) (by omega) h2
          simp; omega)]
    · rw [if_neg (show ¬ ((i : Int) = f) by omega), if_neg (show ¬ (i ≤ f) by omega), if_neg (show ¬ (i + 1 ≤ f) by omega), List.append_assoc]
      congr 1
      have hpi := posG_le (l := l) (i := i) (by omega)
      by_cases ht : t ≤ i
      · rw [if_pos (show i < (kidsOf l (-1)).length ∧ ((i : Int) < f ∨ (t : Int) ≤ i) from ⟨by omega, .inr (by omega)⟩), hg, List.drop_append_of_le_length]
        have := posG_mono' (l := l) (i := t) (j := i) ht (by omega)
        simp [Nat.min_eq_left hpi]
        exact this
      · rw [if_neg (show ¬ (i < (kidsOf l (-1)).length ∧ ((i : Int) < f ∨ (t : Int) ≤ i)) by omega), List.append_nil]
        have a1 := posG_mono' (l := l) (i := i) (j := t) (by omega) h2
        have a2 := posG_mono' (l := l) (i := i + 1) (j := t) (by omega) h2
        rw [List.drop_eq_nil_of_le (by simp; omega), List.drop_eq_nil_of_le (by simp; omega)]
theorem spR_all {l wt : List Nd} (hw : WfN l) {f t : Nat} (h1 : f ≤ t) (h2 : t ≤ (kidsOf l (-1)).length) : spR l wt f t ((kidsOf l (-1)).length + 1) = spO l wt f t := by
  rw [spR_s, spR_inv hw h1 h2 _ (Nat.le_refl _)]
  unfold spO
  have e : ¬ ((kidsOf l (-1)).length < (kidsOf l (-1)).length ∧ (((kidsOf l (-1)).length : Int) < f ∨ (t : Int) ≤ (kidsOf l (-1)).length)) := fun h => by omega
  rw [if_neg e, List.append_nil, posG_end, List.take_length]
  by_cases hf : (kidsOf l (-1)).length ≤ f
  · obtain rfl : f = (kidsOf l (-1)).length := by omega
    obtain rfl : t = (kidsOf l (-1)).length := by omega
    rw [if_pos rfl, if_pos (Nat.le_refl _), posG_end]
    simp
  · rw [if_neg (by omega), if_neg hf]
end Go.Proofs.Ytddbnggficlcfaa
