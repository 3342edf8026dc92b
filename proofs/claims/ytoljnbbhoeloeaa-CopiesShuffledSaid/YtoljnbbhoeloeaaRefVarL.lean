/- PLAIN: the variants by place: what the document's answer lists is the stable order of what the library collects. -/
import Derived.Test.YtoljnbbhoeloeaaVarW
namespace Go.Proofs.Ytoljnbbhoeloeaa
/-- No stretch begins behind the base. -/
theorem at_step (base other : List Int) (M : Nat) {s : SS} {p : Int × Int} {i : Nat} (hs : s.at_ = i) (hM : ∀ x ∈ s.out, x.1 ≤ M) (hi : i ≤ M) (hp : 0 ≤ p.1 ∧ i + 1 ≤ M ∨ ¬ 0 ≤ p.1) :
    (s.step base other p).at_ = (if 0 ≤ p.1 then i + 1 else i) ∧ ∀ x ∈ (s.step base other p).out, x.1 ≤ M := by
  unfold SS.step
  by_cases hA : Agree base other p
  · rw [if_pos hA]
    have h0 : 0 ≤ p.1 := hA.1
    rw [if_pos h0]
    exact ⟨by simp [hs], fun x hx => hM x (by simpa [SS.out] using hx)⟩
  · rw [if_neg hA]
    refine ⟨by simp only [one, hs]; split <;> rfl, fun x hx => ?_⟩
    simp only [SS.out, List.mem_append, List.mem_singleton] at hx
    rcases hx with hx | rfl
    · exact hM x (by unfold SS.out; split <;> simp [hx])
    · simp only [SS.cur]
      cases ho : s.op with
      | none => simp [hs]; exact hi
      | some y => simp; exact hM y (by simp [SS.out, ho])
theorem at_tr (base other : List Int) (M : Nat) : ∀ (n i k : Nat) (a b : List Int) (s : SS), i + a.length = M → s.at_ = i → (∀ x ∈ s.out, x.1 ≤ M) → ∀ x ∈ ((tr n i k a b).foldl (SS.step base other) s).out, x.1 ≤ M := by
  intro n
  induction n with
  | zero => intro i k a b s _ _ hs; simpa [tr] using hs
  | succ n ih =>
    intro i k a b s hM ha hs
    cases a with
    | nil =>
      cases b with
      | nil => simpa [tr] using hs
      | cons y b =>
        rw [tr, List.foldl_cons]
        obtain ⟨h1, h2⟩ := at_step base other M (p := (-1, (k : Int))) ha hs (by simp at hM; omega) (.inr (by simp))
        exact ih i (k + 1) [] b _ hM (by rw [h1, if_neg (by simp)]) h2
    | cons x a =>
      simp only [List.length_cons] at hM
      have hL : ∀ r : Int, ((s.step base other ((i : Int), r)).at_ = i + 1) ∧ ∀ x ∈ (s.step base other ((i : Int), r)).out, x.1 ≤ M := fun r => by
        obtain ⟨h1, h2⟩ := at_step base other M (p := ((i : Int), r)) ha hs (by omega) (.inl ⟨by simp, by omega⟩)
        exact ⟨by rw [h1, if_pos (by simp)], h2⟩
      cases b with
      | nil =>
        rw [tr, List.foldl_cons]
        exact ih (i + 1) k a [] _ (by omega) (hL _).1 (hL _).2
      | cons y b =>
        rw [tr]
        split
        · rw [List.foldl_cons]; exact ih (i + 1) (k + 1) a b _ (by omega) (hL _).1 (hL _).2
        · split
          · rw [List.foldl_cons]; exact ih (i + 1) k a (y :: b) _ (by omega) (hL _).1 (hL _).2
          · rw [List.foldl_cons]
            obtain ⟨h1, h2⟩ := at_step base other M (p := (-1, (k : Int))) ha hs (by omega) (.inr (by simp))
            exact ih i (k + 1) (x :: a) b _ (by simp; omega) (by rw [h1, if_neg (by simp)]) h2
theorem strs_at (a b : List Int) : ∀ x ∈ strs a b, x.1 ≤ a.length := at_tr a b a.length _ 0 0 a b ⟨0, none, []⟩ (by simp) rfl (by simp [SS.out])
/-- Those of a copy at a place. -/
def atOf (a : List Int) (at_ c : Nat) (b : List Int) : List Va := (ofCopy a c b).filter fun t => decide (t.1 = (at_ : Int))
def rowOf (a : List Int) (sg : List (List Int)) (at_ : Nat) : Nat → List Va
  | 0 => []
  | k + 1 => rowOf a sg at_ k ++ atOf a at_ k (sg.getD k [])
def refRaw (a : List Int) (sg : List (List Int)) (n : Nat) : Nat → List Va
  | 0 => []
  | at_ + 1 => refRaw a sg n at_ ++ rowOf a sg at_ n
theorem rowOf_eq (a : List Int) (sg : List (List Int)) (at_ : Nat) : ∀ k, rowOf a sg at_ k = (raw a sg k).filter fun t => decide (t.1 = (at_ : Int))
  | 0 => rfl
  | k + 1 => by rw [rowOf, raw, List.filter_append, rowOf_eq a sg at_ k]; rfl
theorem refRaw_mem (a : List Int) (sg : List (List Int)) (n : Nat) : ∀ m, ∀ t ∈ refRaw a sg n m, 0 ≤ t.1 ∧ t.1 < m
  | 0, t, ht => by cases ht
  | m + 1, t, ht => by
    rw [refRaw, List.mem_append] at ht
    rcases ht with ht | ht
    · have := refRaw_mem a sg n m t ht; omega
    · rw [rowOf_eq] at ht
      have := (List.mem_filter.1 ht).2
      simp at this
      omega
theorem refRaw_filter (a : List Int) (sg : List (List Int)) (n : Nat) (x : Int) : ∀ m, (refRaw a sg n m).filter (fun t => decide (t.1 = x)) = if 0 ≤ x ∧ x < m then (raw a sg n).filter (fun t => decide (t.1 = x)) else []
  | 0 => by rw [if_neg (by omega)]; rfl
  | m + 1 => by
    rw [refRaw, List.filter_append, refRaw_filter a sg n x m, rowOf_eq, List.filter_filter]
    by_cases h1 : x = (m : Int)
    · subst h1
      rw [if_neg (by omega), if_pos (by omega), List.nil_append]
      congr 1; funext t; simp
    · have : ((raw a sg n).filter fun t => decide (t.1 = x) && decide (t.1 = (m : Int))) = [] := List.filter_eq_nil_iff.2 fun t _ => by simp; intro h; omega
      rw [this, List.append_nil]
      by_cases h2 : 0 ≤ x ∧ x < (m : Int)
      · rw [if_pos h2, if_pos (by omega)]
      · rw [if_neg h2, if_neg (by omega)]
theorem refRaw_sorted (a : List Int) (sg : List (List Int)) (n : Nat) : ∀ m, (refRaw a sg n m).Pairwise fun x y => x.1 ≤ y.1
  | 0 => List.Pairwise.nil
  | m + 1 => by
    rw [refRaw, List.pairwise_append]
    refine ⟨refRaw_sorted a sg n m, ?_, fun x hx y hy => ?_⟩
    · rw [rowOf_eq, List.pairwise_iff_getElem]
      intro i j hi hj _
      have h1 := (List.mem_filter.1 (List.getElem_mem hi)).2
      have h2 := (List.mem_filter.1 (List.getElem_mem hj)).2
      simp only [decide_eq_true_eq] at h1 h2
      rw [h1, h2]
      exact Int.le_refl _
    · have := refRaw_mem a sg n m x hx
      rw [rowOf_eq] at hy
      have h2 := (List.mem_filter.1 hy).2
      simp at h2
      omega
theorem raw_at (a : List Int) (sg : List (List Int)) : ∀ n, ∀ t ∈ raw a sg n, 0 ≤ t.1 ∧ t.1 < ((a.length + 1 : Nat) : Int)
  | 0, t, ht => by cases ht
  | n + 1, t, ht => by
    rw [raw, List.mem_append] at ht
    rcases ht with ht | ht
    · exact raw_at a sg n t ht
    · obtain ⟨x, hx, rfl⟩ := List.mem_map.1 ht
      have := strs_at a _ x hx
      simp; omega
theorem filt_all {L L' : List Va} (h : ∀ x : Int, L'.filter (fun t => decide (t.1 = x)) = L.filter (fun t => decide (t.1 = x))) : L'.length = L.length := by
  refine List.Perm.length_eq (List.perm_iff_count.2 fun t => ?_)
  have h1 := List.count_filter (l := L') (a := t) (p := fun u : Va => decide (u.1 = t.1)) (by simp)
  have h2 := List.count_filter (l := L) (a := t) (p := fun u : Va => decide (u.1 = t.1)) (by simp)
  rw [← h1, ← h2, h t.1]
theorem refRaw_stab (a : List Int) (sg : List (List Int)) (n : Nat) : StabL (raw a sg n) (refRaw a sg n (a.length + 1)) := by
  have hf : ∀ x : Int, (refRaw a sg n (a.length + 1)).filter (fun t => decide (t.1 = x)) = (raw a sg n).filter (fun t => decide (t.1 = x)) := fun x => by
    rw [refRaw_filter]
    by_cases h : 0 ≤ x ∧ x < ((a.length + 1 : Nat) : Int)
    · rw [if_pos h]
    · rw [if_neg h]
      refine (List.filter_eq_nil_iff.2 fun t ht => ?_).symm
      have := raw_at a sg n t ht
      simp
      intro e
      omega
  exact ⟨filt_all hf, hf, refRaw_sorted a sg n _⟩
end Go.Proofs.Ytoljnbbhoeloeaa
