/- THE PLAIN LAW OF Hands: the first list of scribes that keeps copies apart, by a search in depth. -/
import Derived.Test.YtoljnbbhoeloeaaBase
namespace Go.Proofs.Ytoljnbbhoeloeaa
open Go.RowKit
def nxt (l : List Nat) : Nat := l.foldl (fun m s => max m (s + 1)) 0
theorem nxt_snoc (l : List Nat) (s : Nat) : nxt (l ++ [s]) = max (nxt l) (s + 1) := by simp [nxt]
/-- Whether the scribe s may not write the copy behind l. -/
def clash (ap : Nat → Nat → Bool) (l : List Nat) (s : Nat) : Bool := (List.range l.length).any fun k => decide (l.getD k 0 = s) && ap l.length k
def srch (g : Nat → Option (List Nat)) : Nat → Nat → Option (List Nat)
  | 0, _ => none
  | c + 1, s => match g s with
    | some r => some r
    | none => srch g c (s + 1)
def dfs (ap : Nat → Nat → Bool) (S : Nat) : Nat → List Nat → Option (List Nat)
  | 0, l => some l
  | f + 1, l => srch (fun s => if clash ap l s then none else dfs ap S f (l ++ [s])) (min S (nxt l + 1)) 0
theorem srch_none {g : Nat → Option (List Nat)} : ∀ (c s : Nat), (∀ t, s ≤ t → t < s + c → g t = none) → srch g c s = none
  | 0, _, _ => rfl
  | c + 1, s, h => by
    rw [srch, h s (by omega) (by omega)]
    exact srch_none c (s + 1) fun t h1 h2 => h t (by omega) (by omega)
theorem srch_some {g : Nat → Option (List Nat)} {r : List Nat} : ∀ (c s t : Nat), s ≤ t → t < s + c → (∀ u, s ≤ u → u < t → g u = none) → g t = some r → srch g c s = some r
  | 0, _, _, _, _, _, _ => by omega
  | c + 1, s, t, h1, h2, h3, h4 => by
    rw [srch]
    by_cases e : s = t
    · subst e; rw [h4]
    · rw [h3 s (by omega) (by omega)]
      exact srch_some c (s + 1) t (by omega) (by omega) (fun u h5 h6 => h3 u (by omega) h6) h4
theorem srch_get {g : Nat → Option (List Nat)} {r : List Nat} : ∀ (c s : Nat), srch g c s = some r → ∃ t, s ≤ t ∧ t < s + c ∧ g t = some r ∧ ∀ u, s ≤ u → u < t → g u = none
  | 0, _, h => by cases h
  | c + 1, s, h => by
    rw [srch] at h
    cases hg : g s with
    | some r' =>
      rw [hg] at h
      injection h with h
      subst h
      exact ⟨s, by omega, by omega, hg, fun u h1 h2 => by omega⟩
    | none =>
      rw [hg] at h
      obtain ⟨t, h1, h2, h3, h4⟩ := srch_get c (s + 1) h
      exact ⟨t, by omega, by omega, h3, fun u h5 h6 => by
        rcases Nat.lt_or_ge s u with h7 | h7
        · exact h4 u (by omega) h6
        · obtain rfl : s = u := by omega
          exact hg⟩
theorem srch_no {g : Nat → Option (List Nat)} : ∀ (c s : Nat), srch g c s = none → ∀ t, s ≤ t → t < s + c → g t = none
  | 0, _, _, _, _, _ => by omega
  | c + 1, s, h, t, h1, h2 => by
    rw [srch] at h
    cases hg : g s with
    | some r' => rw [hg] at h; cases h
    | none =>
      rw [hg] at h
      rcases Nat.lt_or_ge s t with h3 | h3
      · exact srch_no c (s + 1) h t (by omega) (by omega)
      · obtain rfl : s = t := by omega
        exact hg
/-- One step of the search: what the scribe t leads to. -/
def stp1 (ap : Nat → Nat → Bool) (S f : Nat) (l : List Nat) (s : Nat) : Option (List Nat) := if clash ap l s then none else dfs ap S f (l ++ [s])
theorem dfs_none {ap : Nat → Nat → Bool} {S f : Nat} {l : List Nat} (h : ∀ t, t < min S (nxt l + 1) → stp1 ap S f l t = none) : dfs ap S (f + 1) l = none :=
  srch_none _ 0 fun t _ h2 => h t (by omega)
theorem dfs_some {ap : Nat → Nat → Bool} {S f t : Nat} {l r : List Nat} (h : ∀ u, u < t → stp1 ap S f l u = none) (ht : t < min S (nxt l + 1)) (hr : stp1 ap S f l t = some r) : dfs ap S (f + 1) l = some r :=
  srch_some _ 0 t (by omega) (by omega) (fun u _ h2 => h u h2) hr
theorem le_nxt {l : List Nat} : ∀ x ∈ l, x < nxt l := by
  have key : ∀ (l : List Nat) (m : Nat), m ≤ l.foldl (fun m s => max m (s + 1)) m ∧ ∀ x ∈ l, x < l.foldl (fun m s => max m (s + 1)) m := by
    intro l
    induction l with
    | nil => intro m; exact ⟨Nat.le_refl _, fun x hx => by cases hx⟩
    | cons a l ih =>
      intro m
      obtain ⟨h1, h2⟩ := ih (max m (a + 1))
      rw [List.foldl_cons]
      refine ⟨by omega, fun x hx => ?_⟩
      rcases List.mem_cons.1 hx with rfl | hx
      · omega
      · exact h2 x hx
  exact (key l 0).2
theorem nxt_le (l : List Nat) : nxt l ≤ l.foldl max 0 + 1 := by
  have key : ∀ (l : List Nat) (m k : Nat), m ≤ k + 1 → l.foldl (fun m s => max m (s + 1)) m ≤ l.foldl max k + 1 := by
    intro l
    induction l with
    | nil => intro m k h; simpa using h
    | cons a l ih => intro m k h; rw [List.foldl_cons, List.foldl_cons]; exact ih _ _ (by omega)
  exact key l 0 0 (by omega)
theorem clash_nxt {ap : Nat → Nat → Bool} {l : List Nat} {s : Nat} (h : nxt l ≤ s) : clash ap l s = false := by
  unfold clash
  rw [List.any_eq_false]
  intro k hk
  have hk : k < l.length := List.mem_range.1 hk
  have h1 := le_nxt (l := l) (l.getD k 0) (by simp [List.getD, List.getElem?_eq_getElem hk])
  simp only [Bool.and_eq_true, decide_eq_true_eq, not_and]
  intro h2
  omega
theorem dfs_full {ap : Nat → Nat → Bool} {S : Nat} : ∀ (f : Nat) (l : List Nat), nxt l + f ≤ S → dfs ap S f l ≠ none
  | 0, _, _ => by simp [dfs]
  | f + 1, l, h => fun hn => by
    have h1 := srch_no _ 0 hn (nxt l) (by omega) (by omega)
    rw [clash_nxt (Nat.le_refl _)] at h1
    exact dfs_full f (l ++ [nxt l]) (by rw [nxt_snoc]; omega) h1
theorem dfs_len {ap : Nat → Nat → Bool} {S : Nat} : ∀ (f : Nat) (l r : List Nat), dfs ap S f l = some r → r.length = l.length + f
  | 0, l, r, h => by simp [dfs] at h; subst h; rfl
  | f + 1, l, r, h => by
    obtain ⟨t, _, _, h1, _⟩ := srch_get _ 0 h
    split at h1
    · cases h1
    · have := dfs_len f _ r h1
      simp at this
      omega
/-- The list of scribes: the first one with the fewest. -/
def hs (ap : Nat → Nat → Bool) (N : Nat) : Nat → Nat → List Nat
  | 0, _ => []
  | c + 1, S => match dfs ap S N [] with
    | some r => r
    | none => hs ap N c (S + 1)
def hands (ap : Nat → Nat → Bool) (N : Nat) : List Nat := hs ap N (N + 1) 0
theorem hs_eq {ap : Nat → Nat → Bool} {N : Nat} {r : List Nat} : ∀ (c S T : Nat), S ≤ T → T < S + c → (∀ U, S ≤ U → U < T → dfs ap U N [] = none) → dfs ap T N [] = some r → hs ap N c S = r
  | 0, _, _, _, _, _, _ => by omega
  | c + 1, S, T, h1, h2, h3, h4 => by
    rw [hs]
    by_cases e : S = T
    · subst e; rw [h4]
    · rw [h3 S (by omega) (by omega)]
      exact hs_eq c (S + 1) T (by omega) (by omega) (fun U h5 h6 => h3 U (by omega) h6) h4
theorem hands_eq {ap : Nat → Nat → Bool} {N S : Nat} {r : List Nat} (hS : S ≤ N) (h : ∀ U, U < S → dfs ap U N [] = none) (hr : dfs ap S N [] = some r) : hands ap N = r :=
  hs_eq (N + 1) 0 S (by omega) (by omega) (fun U _ h2 => h U h2) hr
theorem hands_full {ap : Nat → Nat → Bool} {N S : Nat} (h : dfs ap S N [] = none) : S < N := by
  rcases Nat.lt_or_ge S N with h1 | h1
  · exact h1
  · exact absurd h (dfs_full N [] (by simp [nxt]; omega))
theorem hands_len {ap : Nat → Nat → Bool} {N : Nat} : (hands ap N).length = N := by
  have key : ∀ c S, S + c = N + 1 → (∀ U, U < S → dfs ap U N [] = none) → (hs ap N c S).length = N := by
    intro c
    induction c with
    | zero => intro S h1 h2; exact absurd (h2 N (by omega)) (dfs_full N [] (by simp [nxt]))
    | succ c ih =>
      intro S h1 h2
      rw [hs]
      cases hd : dfs ap S N [] with
      | some r => simpa using dfs_len N [] r hd
      | none =>
        exact ih (S + 1) (by omega) fun U hU => by
          rcases Nat.lt_or_ge U S with h3 | h3
          · exact h2 U h3
          · obtain rfl : U = S := by omega
            exact hd
  exact key (N + 1) 0 (by omega) fun U hU => by omega
/-- The numbers of a list as the program's. -/
def nz (l : List Nat) : List Int := l.map fun x : Nat => (x : Int)
theorem nz_snoc (l : List Nat) (s : Nat) : nz (l ++ [s]) = nz l ++ [(s : Int)] := by simp [nz]
theorem nz_len (l : List Nat) : (nz l).length = l.length := by simp [nz]
theorem nz_get {l : List Nat} {k : Nat} (h : k < l.length) : (nz l).getD k 0 = (l.getD k 0 : Nat) := by
  simp [nz, List.getD, List.getElem?_eq_getElem h]
theorem clash_of {ap : Nat → Nat → Bool} {l : List Nat} {s k : Nat} (hk : k < l.length) (h1 : l.getD k 0 = s) (h2 : ap l.length k = true) : clash ap l s = true :=
  List.any_eq_true.2 ⟨k, List.mem_range.2 hk, by simp only [h1, h2, decide_true]; rfl⟩
theorem clash_no {ap : Nat → Nat → Bool} {l : List Nat} {s : Nat} (h : ∀ k, k < l.length → l.getD k 0 = s → ap l.length k = false) : clash ap l s = false := by
  unfold clash
  rw [List.any_eq_false]
  intro k hk
  simp only [Bool.and_eq_true, decide_eq_true_eq, not_and]
  intro h2
  rw [h k (List.mem_range.1 hk) h2]
  decide
end Go.Proofs.Ytoljnbbhoeloeaa
