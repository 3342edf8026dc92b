/- THE PLAIN LAW OF Fewest: no list of scribes with fewer keeps copies apart. -/
import Derived.Test.YtoljnbbhoeloeaaHandsL
import Derived.Test.YtoljnbbhoeloeaaChanceL
import Derived.Test.YtoljnbbhoeloeaaTellL
namespace Go.Proofs.Ytoljnbbhoeloeaa
open Go.RowKit
/-- A list of S scribes that keeps copies apart. -/
def Keeps (ap : Nat → Nat → Bool) (N S : Nat) (c : Nat → Nat) : Prop := (∀ k, k < N → c k < S) ∧ ∀ i k, k < i → i < N → ap i k = true → c i ≠ c k
theorem getD_snoc {l : List Nat} {s k : Nat} : (l ++ [s]).getD k 0 = if k < l.length then l.getD k 0 else if k = l.length then s else 0 := by
  by_cases h : k < l.length
  · simp [List.getD, List.getElem?_append_left h, h]
  · by_cases h2 : k = l.length
    · subst h2; simp [List.getD]
    · have h3 : l.length + 1 ≤ k := by omega
      simp [List.getD, h, h2, List.getElem?_eq_none (l := l ++ [s]) (i := k) (by simp; omega)]
theorem dfs_ex {ap : Nat → Nat → Bool} {N S : Nat} : ∀ (f : Nat) (l : List Nat) (c : Nat → Nat), l.length + f = N → (∀ k, k < l.length → c k = l.getD k 0) → Keeps ap N S c → dfs ap S f l ≠ none
  | 0, _, _, _, _, _ => by simp [dfs]
  | f + 1, l, c, hl, hc, hk => by
    have main : ∀ (c : Nat → Nat), (∀ k, k < l.length → c k = l.getD k 0) → Keeps ap N S c → c l.length ≤ nxt l → dfs ap S (f + 1) l ≠ none := fun c hc hk hn he => by
      have h0 := hk.1 l.length (by omega)
      have h1 := srch_no _ 0 he (c l.length) (by omega) (by omega)
      have hcl : clash ap l (c l.length) = false := clash_no fun k h2 h3 => by
        cases ha : ap l.length k with
        | false => rfl
        | true => exact absurd ((hc k h2).trans h3).symm (hk.2 _ _ h2 (by omega) ha)
      rw [hcl] at h1
      refine dfs_ex f (l ++ [c l.length]) c (by simp; omega) (fun k h2 => ?_) hk h1
      rw [getD_snoc]
      simp at h2
      by_cases h3 : k < l.length
      · rw [if_pos h3]; exact hc k h3
      · rw [if_neg h3, if_pos (by omega)]
        congr 1
        omega
    by_cases hn : c l.length ≤ nxt l
    · exact main c hc hk hn
    · have h0 := hk.1 l.length (by omega)
      refine main (fun k => if c k = c l.length then nxt l else if c k = nxt l then c l.length else c k) (fun k h2 => ?_) ⟨fun k h2 => ?_, fun i k h2 h3 h4 => ?_⟩ (by simp)
      · have h3 := le_nxt (l := l) (l.getD k 0) (by simp [List.getD, List.getElem?_eq_getElem h2])
        have h4 := hc k h2
        show (if c k = c l.length then nxt l else if c k = nxt l then c l.length else c k) = _
        rw [if_neg (by omega), if_neg (by omega)]
        exact h4
      · have h3 := hk.1 k h2
        show (if c k = c l.length then nxt l else if c k = nxt l then c l.length else c k) < S
        split
        · omega
        · split <;> omega
      · have h5 := hk.2 i k h2 h3 h4
        show (if c i = c l.length then nxt l else if c i = nxt l then c l.length else c i) ≠ (if c k = c l.length then nxt l else if c k = nxt l then c l.length else c k)
        split <;> split <;> (try split) <;> (try split) <;> omega
theorem dfs_path {ap : Nat → Nat → Bool} {S : Nat} : ∀ (f : Nat) (l r : List Nat), dfs ap S f l = some r → r.take l.length = l ∧ ∀ j, l.length ≤ j → j < l.length + f →
    r.getD j 0 < min S (nxt (r.take j) + 1) ∧ clash ap (r.take j) (r.getD j 0) = false ∧ ∀ s, s < r.getD j 0 → stp1 ap S (l.length + f - (j + 1)) (r.take j) s = none
  | 0, l, r, h => by simp [dfs] at h; subst h; exact ⟨by simp, fun j h1 h2 => by omega⟩
  | f + 1, l, r, h => by
    obtain ⟨t, _, h2, h1, h3⟩ := srch_get _ 0 h
    have hcl : clash ap l t = false := by
      cases hc : clash ap l t with
      | false => rfl
      | true => rw [hc] at h1; cases h1
    rw [hcl] at h1
    obtain ⟨i1, i2⟩ := dfs_path f (l ++ [t]) r h1
    have hr : r = l ++ t :: r.drop (l.length + 1) := by
      have := (List.take_append_drop (l.length + 1) r).symm
      simp only [List.length_append, List.length_cons, List.length_nil, Nat.zero_add] at i1
      rw [i1] at this
      simpa using this
    have ht : r.take l.length = l := by rw [hr]; simp
    have hg : r.getD l.length 0 = t := by rw [hr]; simp [List.getD]
    refine ⟨ht, fun j j1 j2 => ?_⟩
    rcases Nat.eq_or_lt_of_le j1 with rfl | j3
    · rw [ht, hg]
      refine ⟨by omega, hcl, fun s hs => ?_⟩
      have := h3 s (by omega) hs
      have e : l.length + (f + 1) - (l.length + 1) = f := by omega
      rw [e]
      exact this
    · have := i2 j (by simp; omega) (by simp; omega)
      have e : (l ++ [t]).length + f - (j + 1) = l.length + (f + 1) - (j + 1) := by simp; omega
      rw [e] at this
      exact this
theorem hands_get {ap : Nat → Nat → Bool} {N : Nat} : ∃ S, S ≤ N ∧ dfs ap S N [] = some (hands ap N) ∧ ∀ U, U < S → dfs ap U N [] = none := by
  have key : ∀ c S, S + c = N + 1 → (∀ U, U < S → dfs ap U N [] = none) → ∃ T, T ≤ N ∧ dfs ap T N [] = some (hs ap N c S) ∧ ∀ U, U < T → dfs ap U N [] = none := by
    intro c
    induction c with
    | zero => intro S h1 h2; exact absurd (h2 N (by omega)) (dfs_full N [] (by simp [nxt]))
    | succ c ih =>
      intro S h1 h2
      rw [hs]
      cases hd : dfs ap S N [] with
      | some r => exact ⟨S, by omega, by simpa using hd, h2⟩
      | none =>
        exact ih (S + 1) (by omega) fun U hU => by
          rcases Nat.lt_or_ge U S with h3 | h3
          · exact h2 U h3
          · obtain rfl : U = S := by omega
            exact hd
  exact key (N + 1) 0 (by omega) fun U hU => by omega
theorem nxt_of {l : List Nat} {S : Nat} (h : ∀ x ∈ l, x < S) : nxt l ≤ S := by
  have key : ∀ (l : List Nat) (m : Nat), m ≤ S → (∀ x ∈ l, x < S) → l.foldl (fun m s => max m (s + 1)) m ≤ S := by
    intro l
    induction l with
    | nil => intro m h _; exact h
    | cons a l ih =>
      intro m h1 h2
      rw [List.foldl_cons]
      have := h2 a (by simp)
      exact ih _ (by omega) fun x hx => h2 x (by simp [hx])
  exact key l 0 (by omega) h
theorem few_le {ap : Nat → Nat → Bool} {N i : Nat} (hi : i < N) : (hands ap N).getD i 0 ≤ nxt ((hands ap N).take i) := by
  obtain ⟨S, _, h2, _⟩ := hands_get (ap := ap) (N := N)
  have := ((dfs_path N [] _ h2).2 i (by simp) (by simpa using hi)).1
  omega
theorem few_apart {ap : Nat → Nat → Bool} {N i k : Nat} (hk : k < i) (hi : i < N) (ha : ap i k = true) : (hands ap N).getD i 0 ≠ (hands ap N).getD k 0 := by
  obtain ⟨S, _, h2, _⟩ := hands_get (ap := ap) (N := N)
  have h3 := ((dfs_path N [] _ h2).2 i (by simp) (by simpa using hi)).2.1
  have hl : ((hands ap N).take i).length = i := by rw [List.length_take, hands_len]; omega
  intro he
  have := clash_of (ap := ap) (l := (hands ap N).take i) (s := (hands ap N).getD i 0) (k := k) (by omega) (by rw [he]; simp [List.getD, List.getElem?_take, hk]) (by rw [hl]; exact ha)
  rw [h3] at this
  cases this
theorem few_keeps {ap : Nat → Nat → Bool} {N S : Nat} (h2 : dfs ap S N [] = some (hands ap N)) : Keeps ap N S fun k => (hands ap N).getD k 0 :=
  ⟨fun k hk => by have := ((dfs_path N [] _ h2).2 k (by simp) (by simpa using hk)).1; show (hands ap N).getD k 0 < S; omega, fun i k h3 h4 h5 => few_apart h3 h4 h5⟩
theorem few_alone {ap : Nat → Nat → Bool} {N i : Nat} (hi : i < N) (ha : ∀ k, k < N → k ≠ i → ap i k = false ∧ ap k i = false) : (hands ap N).getD i 0 = 0 := by
  obtain ⟨S, _, h2, _⟩ := hands_get (ap := ap) (N := N)
  obtain ⟨h3, _, h5⟩ := (dfs_path N [] _ h2).2 i (by simp) (by simpa using hi)
  rcases Nat.eq_zero_or_pos ((hands ap N).getD i 0) with h0 | h0
  · exact h0
  · exfalso
    have h6 := h5 0 h0
    have hl : ((hands ap N).take i).length = i := by rw [List.length_take, hands_len]; omega
    have hcl : clash ap ((hands ap N).take i) 0 = false := clash_no fun k h7 _ => by
      rw [hl] at h7 ⊢
      exact (ha k (by omega) (by omega)).1
    have hkp := few_keeps h2
    unfold stp1 at h6
    rw [hcl] at h6
    refine dfs_ex (N := N) _ _ (fun k => if k = i then 0 else (hands ap N).getD k 0) (by simp [hl]; omega) (fun k h7 => ?_) ⟨fun k h7 => ?_, fun x y h7 h8 h9 => ?_⟩ h6
    · rw [getD_snoc, hl]
      simp [hl] at h7
      show (if k = i then 0 else (hands ap N).getD k 0) = _
      by_cases h8 : k < i
      · rw [if_neg (by omega), if_pos h8]
        simp [List.getD, List.getElem?_take, h8]
      · rw [if_pos (by omega), if_neg h8, if_pos (by omega)]
    · have : (hands ap N).getD k 0 < S := hkp.1 k h7
      show (if k = i then 0 else (hands ap N).getD k 0) < S
      split <;> omega
    · have : (hands ap N).getD x 0 ≠ (hands ap N).getD y 0 := hkp.2 x y h7 h8 h9
      show (if x = i then 0 else (hands ap N).getD x 0) ≠ (if y = i then 0 else (hands ap N).getD y 0)
      by_cases e1 : x = i
      · have := (ha y (by omega) (by omega)).1
        rw [← e1, h9] at this
        cases this
      · by_cases e2 : y = i
        · have := (ha x (by omega) (by omega)).2
          rw [← e2, h9] at this
          cases this
        · rw [if_neg e1, if_neg e2]; exact this
/-- How many numbers below m are used. -/
def cnt (u : Nat → Bool) : Nat → Nat
  | 0 => 0
  | m + 1 => cnt u m + if u m then 1 else 0
theorem cnt_mono {u : Nat → Bool} {s : Nat} : ∀ d, cnt u s ≤ cnt u (s + d)
  | 0 => Nat.le_refl _
  | d + 1 => by
    have := cnt_mono (u := u) (s := s) d
    show cnt u s ≤ cnt u (s + d) + _
    omega
theorem cnt_lt {u : Nat → Bool} {s t : Nat} (h : s < t) (hu : u s = true) : cnt u s < cnt u t := by
  obtain ⟨d, rfl⟩ : ∃ d, t = (s + 1) + d := ⟨t - (s + 1), by omega⟩
  have h1 := cnt_mono (u := u) (s := s + 1) d
  have h2 : cnt u (s + 1) = cnt u s + 1 := by
    show cnt u s + (if u s then 1 else 0) = _
    rw [hu]; rfl
  omega
theorem few_many {ap : Nat → Nat → Bool} {N M : Nat} {own : Nat → Nat} (h1 : ∀ k, k < N → own k < M) (h2 : ∀ i k, k < i → i < N → ap i k = true → own i ≠ own k) {u : Nat → Bool} (hu : ∀ k, k < N → u (own k) = true) : nxt (hands ap N) ≤ cnt u M := by
  obtain ⟨S, _, h3, h4⟩ := hands_get (ap := ap) (N := N)
  have hle : nxt (hands ap N) ≤ S := nxt_of fun x hx => by
    obtain ⟨k, hk, rfl⟩ := List.mem_iff_getElem.1 hx
    have := (few_keeps h3).1 k (by rwa [hands_len] at hk)
    simpa [List.getD, List.getElem?_eq_getElem hk] using this
  rcases Nat.lt_or_ge (cnt u M) S with h5 | h5
  · refine absurd (h4 _ h5) (dfs_ex (N := N) N [] (fun k => cnt u (own k)) (by simp) (fun k hk => by simp at hk) ⟨fun k hk => cnt_lt (h1 k hk) (hu k hk), fun i k h6 h7 h8 => ?_⟩)
    have h9 := h2 i k h6 h7 h8
    show cnt u (own i) ≠ cnt u (own k)
    rcases Nat.lt_or_gt_of_ne h9 with h | h
    · have := cnt_lt h (hu i h7); omega
    · have := cnt_lt h (hu k (by omega)); omega
  · omega
theorem zip_swap {a b : List (Int × Int)} : b.zip a = (a.zip b).map fun x => (x.2, x.1) := by
  apply List.ext_getElem
  · simp; omega
  · intro i h1 h2; simp
theorem fairX_swap {x : Two} : fairX (x.2, x.1) ↔ fairX x := fair_swap
theorem low2_swap {n d : Nat} {x : Two} : low2 n d (x.2, x.1) = low2 n d x := by
  have h := fRes_swap x.1.1 x.1.2 x.2.1 x.2.2
  unfold fRes at h
  simp at h
  obtain ⟨⟨h1, h2⟩, _⟩ := h
  have e1 : nX (x.2, x.1) = nX x := by simp only [nX, h1]
  have e2 : dX (x.2, x.1) = dX x := by simp only [dX, h2]
  show decide (nX (x.2, x.1) * d ≤ n * dX (x.2, x.1)) = decide (nX x * d ≤ n * dX x)
  rw [e1, e2]
theorem tlErr_swap {a b : List (Int × Int)} {n d : Int} : tlErr b a n d = tlErr a b n d := by
  have e : ((b.length = a.length ∧ 1 ≤ b.length ∧ b.length ≤ 12) ∧ ∀ x ∈ b.zip a, fairX x) ↔ ((a.length = b.length ∧ 1 ≤ a.length ∧ a.length ≤ 12) ∧ ∀ x ∈ a.zip b, fairX x) := by
    rw [zip_swap (a := a) (b := b)]
    constructor
    · rintro ⟨h1, h2⟩
      exact ⟨by omega, fun x hx => fairX_swap.1 (h2 _ (List.mem_map_of_mem (f := fun x : Two => (x.2, x.1)) hx))⟩
    · rintro ⟨h1, h2⟩
      refine ⟨by omega, fun x hx => ?_⟩
      obtain ⟨y, hy, rfl⟩ := List.mem_map.1 hx
      exact fairX_swap.2 (h2 y hy)
  unfold tlErr
  by_cases h : (a.length = b.length ∧ 1 ≤ a.length ∧ a.length ≤ 12) ∧ ∀ x ∈ a.zip b, fairX x
  · rw [if_pos h, if_pos (e.2 h)]
  · rw [if_neg h, if_neg fun h' => h (e.1 h')]
theorem tlIs_swap {a b : List (Int × Int)} {n d : Int} : tlIs b a n d = tlIs a b n d := by
  unfold tlIs
  rw [tlErr_swap, zip_swap (a := a) (b := b), List.any_map]
  have : (low2 n.toNat d.toNat ∘ fun x : Two => (x.2, x.1)) = low2 n.toNat d.toNat := funext fun x => low2_swap
  rw [this]
end Go.Proofs.Ytoljnbbhoeloeaa
