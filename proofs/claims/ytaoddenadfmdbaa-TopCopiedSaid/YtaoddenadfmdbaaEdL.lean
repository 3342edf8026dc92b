/- PLAIN LAW: the changes from a line to another; what they have to do with the cost of an alignment. No program in sight. -/
import Derived.Test.YtaoddenadfmdbaaAln
namespace Go.Proofs.Ytaoddenadfmdbaa
def df (x y : Int) : Nat := if x = y then 0 else 1
theorem df_le (x y : Int) : df x y ≤ 1 := by unfold df; split <;> omega
theorem df_self (x : Int) : df x x = 0 := if_pos rfl
def EDstep (x : Int) (n : Nat) (f : List Int → Nat) : List Int → Nat
  | [] => n + 1
  | y :: b => min (min (df x y + f b) (1 + f (y :: b))) (1 + EDstep x n f b)
/-- The fewest changes. -/
def ED : List Int → List Int → Nat
  | [], b => b.length
  | x :: a, b => EDstep x a.length (ED a) b
theorem ED_nil (b : List Int) : ED [] b = b.length := rfl
theorem ED_cons_nil (x : Int) (a : List Int) : ED (x :: a) [] = a.length + 1 := rfl
theorem ED_cons_cons (x y : Int) (a b : List Int) : ED (x :: a) (y :: b) = min (min (df x y + ED a b) (1 + ED a (y :: b))) (1 + ED (x :: a) b) := rfl
theorem ED_right_nil (a : List Int) : ED a [] = a.length := by cases a <;> rfl
theorem ED_le : ∀ (a b : List Int), ED a b ≤ a.length + b.length
  | [], b => by rw [ED_nil]; simp
  | x :: a, [] => by rw [ED_cons_nil]; simp
  | x :: a, y :: b => by
    have h := ED_le (x :: a) b
    rw [ED_cons_cons]
    simp only [List.length_cons] at *
    omega
/-- One sign more of the line: at most one change. -/
theorem ED_del (x : Int) (a b : List Int) : ED (x :: a) b ≤ 1 + ED a b := by
  cases b with
  | nil => rw [ED_cons_nil, ED_right_nil]; omega
  | cons y b => rw [ED_cons_cons]; omega
/-- One sign more of the parallel: at most one change. -/
theorem ED_ins (y : Int) (a b : List Int) : ED a (y :: b) ≤ 1 + ED a b := by
  cases a with
  | nil => rw [ED_nil, ED_nil, List.length_cons]; omega
  | cons x a => rw [ED_cons_cons]; omega
theorem ED_sub (x y : Int) (a b : List Int) : ED (x :: a) (y :: b) ≤ df x y + ED a b := by rw [ED_cons_cons]; omega
theorem ED_self : ∀ a : List Int, ED a a = 0
  | [] => rfl
  | x :: a => by
    have := ED_sub x x a a
    rw [df_self, ED_self a] at this
    omega
theorem ED_zero : ∀ {a b : List Int}, ED a b = 0 → a = b
  | [], b, h => by rw [ED_nil] at h; exact (List.length_eq_zero_iff.1 h).symm
  | x :: a, [], h => by rw [ED_cons_nil] at h; omega
  | x :: a, y :: b, h => by
    rw [ED_cons_cons] at h
    have h1 : df x y + ED a b = 0 := by omega
    have h2 : df x y = 0 := by omega
    have h3 : ED a b = 0 := by omega
    unfold df at h2
    split at h2
    · rename_i e
      rw [e, ED_zero h3]
    · omega
theorem bc_df (x y : Int) : bc y x = 3 * df x y := by
  unfold bc df
  by_cases h : x = y
  · rw [if_pos h, if_pos h.symm]
  · rw [if_neg h, if_neg (fun e => h e.symm)]
/-- What an alignment costs: from 2 to 3 a change. -/
theorem D_ED : ∀ (a b : List Int), 2 * ED a b ≤ D b a ∧ D b a ≤ 3 * ED a b
  | [], b => by rw [ED_nil, D_right_nil]; omega
  | x :: a, [] => by rw [ED_cons_nil, D_nil, List.length_cons]; omega
  | x :: a, y :: b => by
    have h1 := D_ED a b
    have h2 := D_ED a (y :: b)
    have h3 := D_ED (x :: a) b
    rw [ED_cons_cons, D_cons_cons, bc_df]
    omega
/-! ### the table by places -/
def Eat (a b : List Int) (i k : Nat) : Nat := ED (a.drop i) (b.drop k)
theorem Eat_le (a b : List Int) (i k : Nat) : Eat a b i k ≤ a.length + b.length := by
  have := ED_le (a.drop i) (b.drop k)
  simp at this
  unfold Eat
  omega
theorem Eat_last (a b : List Int) (k : Nat) (i : Nat) (h : a.length ≤ i) : Eat a b i k = b.length - k := by
  unfold Eat; rw [List.drop_of_length_le h, ED_nil, List.length_drop]
theorem Eat_end (a b : List Int) (i : Nat) (k : Nat) (h : b.length ≤ k) : Eat a b i k = a.length - i := by
  unfold Eat; rw [List.drop_of_length_le h, ED_right_nil, List.length_drop]
theorem Eat_step (a b : List Int) (i k : Nat) (hi : i < a.length) (hk : k < b.length) :
    Eat a b i k = min (min (df (a.getD i 0) (b.getD k 0) + Eat a b (i + 1) (k + 1)) (1 + Eat a b (i + 1) k)) (1 + Eat a b i (k + 1)) := by
  unfold Eat
  have e : a.drop i = a.getD i 0 :: a.drop (i + 1) := by rw [List.drop_eq_getElem_cons hi]; simp [List.getD, hi]
  have e2 : b.drop k = b.getD k 0 :: b.drop (k + 1) := by rw [List.drop_eq_getElem_cons hk]; simp [List.getD, hk]
  rw [e, e2, ED_cons_cons]
/-! ### rows: the changes from each beginning of the parallel -/
/-- The row behind one more sign, from the place j on: what stands left of it is l; the old row is d :: r. -/
def rowStep (x : Int) : List Int → Nat → List Nat → Nat → List Nat
  | y :: q, d, e :: r, l => min (min (d + df x y) (e + 1)) (l + 1) :: rowStep x q e r (min (min (d + df x y) (e + 1)) (l + 1))
  | _, _, _, _ => []
def exRow (x : Int) (par : List Int) (row : List Nat) : List Nat := match row with
  | d :: r => (d + 1) :: rowStep x par d r (d + 1)
  | [] => []
def row0 (par : List Int) : List Nat := List.range (par.length + 1)
/-- The row behind a line. -/
def rowOf (par : List Int) (P : List Int) : List Nat := P.foldl (fun r x => exRow x par r) (row0 par)
theorem rowOf_snoc (par P : List Int) (x : Int) : rowOf par (P ++ [x]) = exRow x par (rowOf par P) := by unfold rowOf; rw [List.foldl_append]; rfl
theorem rowStep_len (x : Int) : ∀ (q : List Int) (d : Nat) (r : List Nat) (l : Nat), r.length = q.length → (rowStep x q d r l).length = q.length
  | [], d, [], l, _ => rfl
  | y :: q, d, e :: r, l, h => by
    rw [rowStep, List.length_cons, rowStep_len x q e r _ (by simpa using h), List.length_cons]
theorem exRow_len {x : Int} {par : List Int} {row : List Nat} (h : row.length = par.length + 1) : (exRow x par row).length = par.length + 1 := by
  match row, h with
  | d :: r, h =>
    unfold exRow
    rw [List.length_cons, rowStep_len x par d r _ (by simpa using h)]
theorem rowOf_len (par : List Int) : ∀ P : List Int, (rowOf par P).length = par.length + 1 := by
  intro P
  unfold rowOf
  have key : ∀ (P : List Int) (row : List Nat), row.length = par.length + 1 → (P.foldl (fun r x => exRow x par r) row).length = par.length + 1 := by
    intro P
    induction P with
    | nil => intro row h; exact h
    | cons x P ih => intro row h; exact ih _ (exRow_len h)
  exact key P _ (by unfold row0; simp)
/-- A row's numbers are no greater than all signs together. -/
theorem rowStep_get (x : Int) : ∀ (q : List Int) (d : Nat) (r : List Nat) (l : Nat) (k : Nat), k < q.length → k < r.length →
    (rowStep x q d r l).getD k 0 = min (min ((d :: r).getD k 0 + df x (q.getD k 0)) (r.getD k 0 + 1)) ((l :: rowStep x q d r l).getD k 0 + 1)
  | y :: q, d, e :: r, l, 0, _, _ => by rw [rowStep]; rfl
  | y :: q, d, e :: r, l, k + 1, h1, h2 => by
    have ih := rowStep_get x q e r (min (min (d + df x y) (e + 1)) (l + 1)) k (by simpa using h1) (by simpa using h2)
    rw [rowStep]
    simp only [List.getD_cons_succ] at ih ⊢
    exact ih
theorem exRow_zero {x : Int} {par : List Int} {row : List Nat} (h : row.length = par.length + 1) : (exRow x par row).getD 0 0 = row.getD 0 0 + 1 := by
  match row, h with
  | d :: r, h => rfl
theorem exRow_succ {x : Int} {par : List Int} {row : List Nat} (h : row.length = par.length + 1) {k : Nat} (hk : k < par.length) :
    (exRow x par row).getD (k + 1) 0 = min (min (row.getD k 0 + df x (par.getD k 0)) (row.getD (k + 1) 0 + 1)) ((exRow x par row).getD k 0 + 1) := by
  match row, h with
  | d :: r, h =>
    have hr : r.length = par.length := by simpa using h
    unfold exRow
    rw [List.getD_cons_succ, rowStep_get x par d r (d + 1) k hk (by omega), List.getD_cons_succ]
/-- Some place of the parallel parts the changes of a line in two. -/
theorem split_one {par : List Int} {row : List Nat} (hr : row.length = par.length + 1) (x : Int) (S : List Int) : ∀ j, j ≤ par.length → ∃ i, i ≤ par.length ∧ row.getD i 0 + ED (x :: S) (par.drop i) ≤ (exRow x par row).getD j 0 + ED S (par.drop j)
  | 0, _ => by
    refine ⟨0, Nat.zero_le _, ?_⟩
    rw [exRow_zero hr]
    have := ED_del x S (par.drop 0)
    omega
  | j + 1, hj => by
    have hj' : j < par.length := by omega
    have e2 : par.drop j = par.getD j 0 :: par.drop (j + 1) := by rw [List.drop_eq_getElem_cons hj']; simp [List.getD, hj']
    have hs := exRow_succ (x := x) hr hj'
    have c : (exRow x par row).getD (j + 1) 0 = row.getD j 0 + df x (par.getD j 0) ∨ (exRow x par row).getD (j + 1) 0 = row.getD (j + 1) 0 + 1 ∨ (exRow x par row).getD (j + 1) 0 = (exRow x par row).getD j 0 + 1 := by omega
    rcases c with c | c | c
    · refine ⟨j, by omega, ?_⟩
      rw [c, e2]
      have := ED_sub x (par.getD j 0) S (par.drop (j + 1))
      omega
    · refine ⟨j + 1, hj, ?_⟩
      rw [c]
      have := ED_del x S (par.drop (j + 1))
      omega
    · obtain ⟨i, hi, h⟩ := split_one hr x S j (by omega)
      refine ⟨i, hi, ?_⟩
      rw [c]
      have := ED_ins (par.getD j 0) S (par.drop (j + 1))
      rw [← e2] at this
      omega
/-- The changes of a whole line, as the rows count them. -/
def FE (par L : List Int) : Nat := (rowOf par L).getD par.length 0
theorem split_all (par : List Int) : ∀ (S P : List Int), ∃ i, i ≤ par.length ∧ (rowOf par P).getD i 0 + ED S (par.drop i) ≤ FE par (P ++ S)
  | [], P => by
    refine ⟨par.length, Nat.le_refl _, ?_⟩
    unfold FE
    rw [List.append_nil, ED_nil, List.length_drop]
    omega
  | x :: S, P => by
    obtain ⟨j, hj, h⟩ := split_all par S (P ++ [x])
    rw [rowOf_snoc] at h
    obtain ⟨i, hi, h2⟩ := split_one (rowOf_len par P) x S j hj
    refine ⟨i, hi, ?_⟩
    rw [List.append_assoc] at h
    have e : P ++ x :: S = P ++ ([x] ++ S) := rfl
    rw [e]
    omega
theorem exRow_bd {x : Int} {par : List Int} {row : List Nat} {B : Nat} (h : row.length = par.length + 1) (hb : ∀ j, j ≤ par.length → row.getD j 0 ≤ B) : ∀ j, j ≤ par.length → (exRow x par row).getD j 0 ≤ B + 1
  | 0, _ => by rw [exRow_zero h]; have := hb 0 (by omega); omega
  | j + 1, hj => by
    rw [exRow_succ h (by omega)]
    have := hb (j + 1) hj
    omega
/-- The numbers of a row are no greater than the lengths together. -/
theorem rowOf_bd (par : List Int) : ∀ P : List Int, ∀ j, j ≤ par.length → (rowOf par P).getD j 0 ≤ par.length + P.length := by
  have key : ∀ (P : List Int) (row : List Nat) (B : Nat), row.length = par.length + 1 → (∀ j, j ≤ par.length → row.getD j 0 ≤ B) → ∀ j, j ≤ par.length → (P.foldl (fun r x => exRow x par r) row).getD j 0 ≤ B + P.length := by
    intro P
    induction P with
    | nil => intro row B _ hb j hj; exact hb j hj
    | cons x P ih =>
      intro row B h hb j hj
      have := ih (exRow x par row) (B + 1) (exRow_len h) (exRow_bd h hb) j hj
      rw [List.length_cons]
      rw [List.foldl_cons]
      omega
  intro P j hj
  have := key P (row0 par) par.length (by unfold row0; simp) (fun j hj => by
    unfold row0
    rw [List.getD_eq_getElem?_getD, List.getElem?_range (by omega)]
    simpa using hj) j hj
  exact this
end Go.Proofs.Ytaoddenadfmdbaa
