/- PLAIN: the least cost of an alignment, the alignment that is chosen, and what is true of both. No program in sight. -/

namespace Go.Proofs.Ytaoddenadfmdbaa
def bc (x y : Int) : Nat := if x = y then 0 else 3
theorem bc_le (x y : Int) : bc x y ≤ 3 := by unfold bc; split <;> omega
def Dstep (x : Int) (n : Nat) (f : List Int → Nat) : List Int → Nat
  | [] => 2 * (n + 1)
  | y :: b => min (min (bc x y + f b) (2 + f (y :: b))) (2 + Dstep x n f b)
/-- The least cost. -/
def D : List Int → List Int → Nat
  | [], b => 2 * b.length
  | x :: a, b => Dstep x a.length (D a) b
theorem D_nil (b : List Int) : D [] b = 2 * b.length := rfl
theorem D_cons_nil (x : Int) (a : List Int) : D (x :: a) [] = 2 * (a.length + 1) := rfl
theorem D_cons_cons (x y : Int) (a b : List Int) : D (x :: a) (y :: b) = min (min (bc x y + D a b) (2 + D a (y :: b))) (2 + D (x :: a) b) := rfl
theorem D_right_nil (a : List Int) : D a [] = 2 * a.length := by cases a <;> rfl
theorem D_le : ∀ (a b : List Int), D a b ≤ 2 * (a.length + b.length)
  | [], b => by rw [D_nil]; simp
  | x :: a, [] => by rw [D_cons_nil]; simp
  | x :: a, y :: b => by
    have h := D_le (x :: a) b
    rw [D_cons_cons]
    simp only [List.length_cons] at *
    omega
/-- The alignment that is chosen: i and k places have been passed already; n bounds the pairs to come. -/
def tr : Nat → Nat → Nat → List Int → List Int → List (Int × Int)
  | 0, _, _, _, _ => []
  | _ + 1, _, _, [], [] => []
  | n + 1, i, k, [], _ :: b => (-1, (k : Int)) :: tr n i (k + 1) [] b
  | n + 1, i, k, _ :: a, [] => ((i : Int), -1) :: tr n (i + 1) k a []
  | n + 1, i, k, x :: a, y :: b =>
    if D (x :: a) (y :: b) = bc x y + D a b then ((i : Int), (k : Int)) :: tr n (i + 1) (k + 1) a b
    else if D (x :: a) (y :: b) = 2 + D a (y :: b) then ((i : Int), -1) :: tr n (i + 1) k a (y :: b)
    else (-1, (k : Int)) :: tr n i (k + 1) (x :: a) b
def pairsOf (a b : List Int) : List (Int × Int) := tr (a.length + b.length) 0 0 a b
theorem tr_done (n i k : Nat) : tr n i k [] [] = [] := by cases n <;> rfl
theorem tr_len : ∀ (n i k : Nat) (a b : List Int), (tr n i k a b).length ≤ a.length + b.length
  | 0, _, _, _, _ => by simp [tr]
  | _ + 1, _, _, [], [] => by simp [tr]
  | n + 1, i, k, [], _ :: b => by have := tr_len n i (k + 1) [] b; simp [tr] at *; omega
  | n + 1, i, k, _ :: a, [] => by have := tr_len n (i + 1) k a []; simp [tr] at *; omega
  | n + 1, i, k, x :: a, y :: b => by
    rw [tr]
    split
    · have := tr_len n (i + 1) (k + 1) a b; simp at *; omega
    · split
      · have := tr_len n (i + 1) k a (y :: b); simp at *; omega
      · have := tr_len n i (k + 1) (x :: a) b; simp at *; omega
/-! ### the table by places -/
def Dat (a b : List Int) (i k : Nat) : Nat := D (a.drop i) (b.drop k)
theorem Dat_le (a b : List Int) (i k : Nat) : Dat a b i k ≤ 2 * (a.length + b.length) := by
  have := D_le (a.drop i) (b.drop k)
  simp at this
  unfold Dat
  omega
theorem Dat_last (a b : List Int) (k : Nat) (i : Nat) (h : a.length ≤ i) : Dat a b i k = 2 * (b.length - k) := by
  unfold Dat; rw [List.drop_of_length_le h, D_nil, List.length_drop]
theorem Dat_end (a b : List Int) (i : Nat) (k : Nat) (h : b.length ≤ k) : Dat a b i k = 2 * (a.length - i) := by
  unfold Dat; rw [List.drop_of_length_le h, D_right_nil, List.length_drop]
theorem Dat_step (a b : List Int) (i k : Nat) (hi : i < a.length) (hk : k < b.length) :
    Dat a b i k = min (min (bc (a.getD i 0) (b.getD k 0) + Dat a b (i + 1) (k + 1)) (2 + Dat a b (i + 1) k)) (2 + Dat a b i (k + 1)) := by
  unfold Dat
  have e : a.drop i = a.getD i 0 :: a.drop (i + 1) := by rw [List.drop_eq_getElem_cons hi]; simp [List.getD, hi]
  have e2 : b.drop k = b.getD k 0 :: b.drop (k + 1) := by rw [List.drop_eq_getElem_cons hk]; simp [List.getD, hk]
  rw [e, e2, D_cons_cons]
theorem tr_both {a b : List Int} {n i k : Nat} (hi : i < a.length) (hk : k < b.length) (hn : a.length - i + (b.length - k) ≤ n) (h : Dat a b i k = bc (a.getD i 0) (b.getD k 0) + Dat a b (i + 1) (k + 1)) :
    ∃ m, a.length - (i + 1) + (b.length - (k + 1)) ≤ m ∧ tr n i k (a.drop i) (b.drop k) = ((i : Int), (k : Int)) :: tr m (i + 1) (k + 1) (a.drop (i + 1)) (b.drop (k + 1)) := by
  obtain ⟨m, rfl⟩ : ∃ m, n = m + 1 := ⟨n - 1, by omega⟩
  refine ⟨m, by omega, ?_⟩
  unfold Dat at h
  have e : a.drop i = a.getD i 0 :: a.drop (i + 1) := by rw [List.drop_eq_getElem_cons hi]; simp [List.getD, hi]
  have e2 : b.drop k = b.getD k 0 :: b.drop (k + 1) := by rw [List.drop_eq_getElem_cons hk]; simp [List.getD, hk]
  rw [e, e2] at h ⊢
  rw [tr, if_pos h]
theorem tr_left {a b : List Int} {n i k : Nat} (hi : i < a.length) (hn : a.length - i + (b.length - k) ≤ n) (h1 : k < b.length → Dat a b i k ≠ bc (a.getD i 0) (b.getD k 0) + Dat a b (i + 1) (k + 1)) (h : Dat a b i k = 2 + Dat a b (i + 1) k) :
    ∃ m, a.length - (i + 1) + (b.length - k) ≤ m ∧ tr n i k (a.drop i) (b.drop k) = ((i : Int), -1) :: tr m (i + 1) k (a.drop (i + 1)) (b.drop k) := by
  obtain ⟨m, rfl⟩ : ∃ m, n = m + 1 := ⟨n - 1, by omega⟩
  refine ⟨m, by omega, ?_⟩
  unfold Dat at h h1
  have e : a.drop i = a.getD i 0 :: a.drop (i + 1) := by rw [List.drop_eq_getElem_cons hi]; simp [List.getD, hi]
  rcases Nat.lt_or_ge k b.length with hk | hk
  · have e2 : b.drop k = b.getD k 0 :: b.drop (k + 1) := by rw [List.drop_eq_getElem_cons hk]; simp [List.getD, hk]
    have h1' := h1 hk
    rw [e, e2] at h h1' ⊢
    rw [tr, if_neg h1', if_pos h]
  · rw [e, List.drop_of_length_le hk, tr]
theorem tr_right {a b : List Int} {n i k : Nat} (hk : k < b.length) (hn : a.length - i + (b.length - k) ≤ n) (h1 : i < a.length → Dat a b i k ≠ bc (a.getD i 0) (b.getD k 0) + Dat a b (i + 1) (k + 1)) (h : i < a.length → Dat a b i k ≠ 2 + Dat a b (i + 1) k) :
    ∃ m, a.length - i + (b.length - (k + 1)) ≤ m ∧ tr n i k (a.drop i) (b.drop k) = (-1, (k : Int)) :: tr m i (k + 1) (a.drop i) (b.drop (k + 1)) := by
  obtain ⟨m, rfl⟩ : ∃ m, n = m + 1 := ⟨n - 1, by omega⟩
  refine ⟨m, by omega, ?_⟩
  unfold Dat at h h1
  have e2 : b.drop k = b.getD k 0 :: b.drop (k + 1) := by rw [List.drop_eq_getElem_cons hk]; simp [List.getD, hk]
  rcases Nat.lt_or_ge i a.length with hi | hi
  · have e : a.drop i = a.getD i 0 :: a.drop (i + 1) := by rw [List.drop_eq_getElem_cons hi]; simp [List.getD, hi]
    have h1' := h1 hi
    have h' := h hi
    rw [e, e2] at h' h1' ⊢
    rw [tr, if_neg h1', if_neg h']
  · rw [e2, List.drop_of_length_le hi, tr]
theorem Dat_left_end {a b : List Int} {i k : Nat} (hi : i < a.length) (hk : b.length ≤ k) : Dat a b i k = 2 + Dat a b (i + 1) k := by
  rw [Dat_end a b i k hk, Dat_end a b (i + 1) k hk]; omega
/-! ### alignments at large -/
/-- A list of pairs that aligns a and b, and its cost: none where it is no alignment. -/
def costOf : List (Int × Int) → Nat → Nat → List Int → List Int → Option Nat
  | [], _, _, a, b => if a.isEmpty && b.isEmpty then some 0 else none
  | (l, r) :: ps, i, k, a, b =>
    if l = -1 ∧ r = -1 then none
    else if l ≠ -1 ∧ l ≠ (i : Int) ∨ r ≠ -1 ∧ r ≠ (k : Int) then none
    else if l = -1 then (if b.isEmpty then none else (costOf ps i (k + 1) a b.tail).map (· + 2))
    else if r = -1 then (if a.isEmpty then none else (costOf ps (i + 1) k a.tail b).map (· + 2))
    else if a.isEmpty || b.isEmpty then none
    else (costOf ps (i + 1) (k + 1) a.tail b.tail).map (· + bc (a.headD 0) (b.headD 0))
theorem D_skip_left (x : Int) (a b : List Int) : D (x :: a) b ≤ 2 + D a b := by
  cases b with
  | nil => rw [D_cons_nil, D_right_nil]; omega
  | cons y b => rw [D_cons_cons]; omega
theorem D_skip_right (y : Int) (a b : List Int) : D a (y :: b) ≤ 2 + D a b := by
  cases a with
  | nil => simp [D_nil]; omega
  | cons x a => rw [D_cons_cons]; omega
theorem D_match (x y : Int) (a b : List Int) : D (x :: a) (y :: b) ≤ bc x y + D a b := by rw [D_cons_cons]; omega
theorem least : ∀ (ps : List (Int × Int)) (i k : Nat) (a b : List Int) (c : Nat), costOf ps i k a b = some c → D a b ≤ c := by
  intro ps
  induction ps with
  | nil =>
    intro i k a b c h
    cases a <;> cases b <;> simp [costOf] at h
    simp [D_nil]
  | cons p ps ih =>
    intro i k a b c h
    obtain ⟨l, r⟩ := p
    rw [costOf] at h
    split at h
    · cases h
    · split at h
      · cases h
      · split at h
        · cases b with
          | nil => simp at h
          | cons y b =>
            simp only [List.isEmpty_cons, Bool.false_eq_true, if_false, List.tail_cons, Option.map_eq_some_iff] at h
            obtain ⟨c', hc, rfl⟩ := h
            have := ih _ _ _ _ _ hc
            have := D_skip_right y a b
            omega
        · split at h
          · cases a with
            | nil => simp at h
            | cons x a =>
              simp only [List.isEmpty_cons, Bool.false_eq_true, if_false, List.tail_cons, Option.map_eq_some_iff] at h
              obtain ⟨c', hc, rfl⟩ := h
              have := ih _ _ _ _ _ hc
              have := D_skip_left x a b
              omega
          · cases a with
            | nil => simp at h
            | cons x a =>
              cases b with
              | nil => simp at h
              | cons y b =>
                simp only [List.isEmpty_cons, Bool.false_eq_true, Bool.or_self, if_false, List.tail_cons, List.headD_cons, Option.map_eq_some_iff] at h
                obtain ⟨c', hc, rfl⟩ := h
                have := ih _ _ _ _ _ hc
                have := D_match x y a b
                omega
theorem D_self : ∀ a : List Int, D a a = 0
  | [] => rfl
  | x :: a => by
    have := D_self a
    have h := D_match x x a a
    simp [bc] at h
    omega
end Go.Proofs.Ytaoddenadfmdbaa
