/- PLAIN: applying variants: both ways to put them in are the same; all of them give the other line, none the base. -/
import Derived.Test.YtaoddenadfmdbaaVarW
namespace Go.Proofs.Ytaoddenadfmdbaa
/-- The stretches stand one behind the other, with a place between them. -/
def Chain (l : List Item) : Prop := l.Pairwise fun x y => x.1 + x.2.1 < y.1
structure SOk (s : SS) : Prop where
  ch : Chain s.out
  shut : s.op = none → ∀ x ∈ s.cl, x.1 + x.2.1 < s.at_
  end_ : ∀ x, s.op = some x → x.1 + x.2.1 = s.at_
theorem SOk.step {s : SS} (h : SOk s) (base other : List Int) (p : Int × Int) : SOk (s.step base other p) := by
  obtain ⟨at_, op, cl⟩ := s
  obtain ⟨h1, h2, h3⟩ := h
  unfold SS.step
  split
  · refine ⟨by simpa [SS.out] using h1, fun _ x hx => ?_, fun x hx => by cases hx⟩
    simp only at hx ⊢
    cases op with
    | none => have := h2 rfl x (by simpa [SS.out] using hx); simp only at this; omega
    | some y =>
      simp only [SS.out, List.mem_append, List.mem_singleton] at hx
      have hy := h3 y rfl
      simp only at hy
      rcases hx with hx | rfl
      · simp only [Chain, SS.out, List.pairwise_append] at h1
        have := h1.2.2 x hx y (by simp)
        omega
      · omega
  · cases op with
    | none =>
      simp only [SS.out, SS.cur, Option.getD_none] at *
      refine ⟨?_, (fun h => by cases h), fun x hx => ?_⟩
      · simp only [Chain, SS.out, List.pairwise_append]
        exact ⟨h1, List.pairwise_singleton _ _, fun x hx y hy => by obtain rfl := List.mem_singleton.1 hy; exact h2 trivial x hx⟩
      · simp only [Option.some.injEq] at hx; subst hx; simp
    | some y =>
      simp only [SS.out, SS.cur, Option.getD_some] at *
      refine ⟨?_, (fun h => by cases h), fun x hx => ?_⟩
      · simp only [Chain, SS.out, List.pairwise_append] at h1 ⊢
        exact ⟨h1.1, List.pairwise_singleton _ _, fun x hx z hz => by obtain rfl := List.mem_singleton.1 hz; exact h1.2.2 x hx y (by simp)⟩
      · simp only [Option.some.injEq] at hx; subst hx; have := h3 y rfl; simp; omega
theorem stAt_ok (base other : List Int) : ∀ k, k ≤ (pairsOf base other).length → SOk (stAt base other k) := by
  intro k
  induction k with
  | zero => intro _; exact ⟨List.Pairwise.nil, (fun _ x hx => by cases hx), fun x hx => by simp [stAt, run] at hx⟩
  | succ k ih => intro h; rw [stAt_succ (by omega)]; exact (ih (by omega)).step _ _ _
theorem strs_chain (a b : List Int) : Chain (strs a b) := by rw [strs_eq]; exact (stAt_ok a b _ (Nat.le_refl _)).ch
/-! ### where the base and the other line stand when i and k places are behind -/
/-- .. of those that are chosen. -/
def apF (a : List Int) : List (Item × Bool) → Nat → List Int
  | [], at_ => a.drop at_
  | (x, c) :: r, at_ => if c then (a.drop at_).take (x.1 - at_) ++ (x.2.2 ++ apF a r (x.1 + x.2.1)) else apF a r at_
/-- No stretch ends behind the base. -/
theorem end_tr (base other : List Int) (M : Nat) : ∀ (n i k : Nat) (a b : List Int) (s : SS), i + a.length = M → s.at_ = i → SOk s → (∀ x ∈ s.out, x.1 + x.2.1 ≤ M) → ∀ x ∈ ((tr n i k a b).foldl (SS.step base other) s).out, x.1 + x.2.1 ≤ M := by
  have stp : ∀ (s : SS) (p : Int × Int), SOk s → s.at_ + one p.1 ≤ M → (∀ x ∈ s.out, x.1 + x.2.1 ≤ M) → (∀ x ∈ (s.step base other p).out, x.1 + x.2.1 ≤ M) ∧ (s.step base other p).at_ = s.at_ + (if Agree base other p then 1 else one p.1) := by
    intro s p hok hat hs
    unfold SS.step
    by_cases hA : Agree base other p
    · rw [if_pos hA, if_pos hA]; exact ⟨fun x hx => hs x (by simpa [SS.out] using hx), rfl⟩
    · rw [if_neg hA, if_neg hA]
      refine ⟨fun x hx => ?_, rfl⟩
      simp only [SS.out, List.mem_append, List.mem_singleton] at hx
      rcases hx with hx | rfl
      · exact hs x (by unfold SS.out; split <;> simp [hx])
      · simp only [SS.cur]
        cases ho : s.op with
        | none => simp; omega
        | some y => have := hok.end_ y ho; simp; omega
  intro n
  induction n with
  | zero => intro i k a b s _ _ _ hs; simpa [tr] using hs
  | succ n ih =>
    intro i k a b s hM ha hok hs
    cases a with
    | nil =>
      cases b with
      | nil => simpa [tr] using hs
      | cons y b =>
        rw [tr, List.foldl_cons]
        obtain ⟨h1, h2⟩ := stp s (-1, (k : Int)) hok (by simp [one] at *; omega) hs
        exact ih i (k + 1) [] b _ hM (by rw [h2, if_neg (fun h => by have := h.1; simp at this)]; simp [one, ha]) (hok.step _ _ _) h1
    | cons x a =>
      simp only [List.length_cons] at hM
      have hL : ∀ r : Int, (∀ x ∈ (s.step base other ((i : Int), r)).out, x.1 + x.2.1 ≤ M) ∧ (s.step base other ((i : Int), r)).at_ = i + 1 := fun r => by
        obtain ⟨h1, h2⟩ := stp s ((i : Int), r) hok (by simp [one]; omega) hs
        exact ⟨h1, by rw [h2, ha]; split <;> simp [one]⟩
      cases b with
      | nil =>
        rw [tr, List.foldl_cons]
        exact ih (i + 1) k a [] _ (by omega) (hL _).2 (hok.step _ _ _) (hL _).1
      | cons y b =>
        rw [tr]
        split
        · rw [List.foldl_cons]; exact ih (i + 1) (k + 1) a b _ (by omega) (hL _).2 (hok.step _ _ _) (hL _).1
        · split
          · rw [List.foldl_cons]; exact ih (i + 1) k a (y :: b) _ (by omega) (hL _).2 (hok.step _ _ _) (hL _).1
          · rw [List.foldl_cons]
            obtain ⟨h1, h2⟩ := stp s (-1, (k : Int)) hok (by simp [one]; omega) hs
            exact ih i (k + 1) (x :: a) b _ (by simp; omega) (by rw [h2, if_neg (fun h => by have := h.1; simp at this)]; simp [one, ha]) (hok.step _ _ _) h1
theorem strs_end (a b : List Int) : ∀ x ∈ strs a b, x.1 + x.2.1 ≤ a.length :=
  end_tr a b a.length _ 0 0 a b ⟨0, none, []⟩ (by simp) rfl ⟨List.Pairwise.nil, (fun _ x hx => by cases hx), fun x hx => by cases hx⟩ (by simp [SS.out])
end Go.Proofs.Ytaoddenadfmdbaa
