/- THE PLAIN LAW OF Hands: what any copies and a limit answer. -/
import Derived.Test.YtoljnbbhoeloeaaHandsL
import Derived.Test.YtoljnbbhoeloeaaTellL
namespace Go.Proofs.Ytoljnbbhoeloeaa
open Go.RowKit
abbrev Cps := List (List (Int × Int))
def cp (ls : Cps) (i : Nat) : List (Int × Int) := ls.getD i []
/-- The error of two copies; whether they are apart. -/
def per (ls : Cps) (n d : Int) (i k : Nat) : Int := tlErr (cp ls i) (cp ls k) n d
def pis (ls : Cps) (n d : Int) (i k : Nat) : Bool := decide (i ≠ k) && tlIs (cp ls (min i k)) (cp ls (max i k)) n d
theorem tlIs_nil {a : List (Int × Int)} {n d : Int} : tlIs a [] n d = false := by
  exact (tl_80 fun h => by have h1 := h.1; have h2 := h.2.1; rw [List.length_nil] at h1; omega).2
theorem pis_far {ls : Cps} {n d : Int} {i k : Nat} (h : ls.length ≤ i ∨ ls.length ≤ k) : pis ls n d i k = false := by
  unfold pis
  have : cp ls (max i k) = [] := by unfold cp; simp [List.getD, List.getElem?_eq_none (l := ls) (i := max i k) (by omega)]
  rw [this, tlIs_nil]
  simp
theorem pis_lt {ls : Cps} {n d : Int} {i k : Nat} (h : i < k) : pis ls n d i k = tlIs (cp ls i) (cp ls k) n d := by
  unfold pis
  rw [Nat.min_eq_left (by omega), Nat.max_eq_right (by omega)]
  simp [Nat.ne_of_lt h]
theorem pis_comm {ls : Cps} {n d : Int} {i k : Nat} : pis ls n d i k = pis ls n d k i := by
  unfold pis
  rw [Nat.min_comm, Nat.max_comm]
  by_cases h : i = k
  · subst h; rfl
  · simp [h, Ne.symm h]
/-- Whether the pair j, m comes before the pair i, k. -/
def Pre (j m i k : Nat) : Prop := j < i ∨ j = i ∧ m < k
/-- Whether all pairs before the pair i, k are without an error. -/
def Okp (ls : Cps) (n d : Int) (i k : Nat) : Prop := ∀ j m, j < m → m < ls.length → Pre j m i k → per ls n d j m = 0
theorem okp_0 {ls : Cps} {n d : Int} : Okp ls n d 0 0 := fun j m _ _ h => by unfold Pre at h; omega
theorem okp_step {ls : Cps} {n d : Int} {i k : Nat} (h : Okp ls n d i k) (h2 : per ls n d i k = 0) : Okp ls n d i (k + 1) := fun j m h3 h4 h5 => by
  unfold Pre at h5
  by_cases e : j = i ∧ m = k
  · obtain ⟨rfl, rfl⟩ := e; exact h2
  · exact h j m h3 h4 (by unfold Pre; omega)
theorem okp_row {ls : Cps} {n d : Int} {i k : Nat} (h : Okp ls n d i k) (hk : ls.length ≤ k) : Okp ls n d (i + 1) 0 := fun j m h3 h4 h5 => by
  unfold Pre at h5
  exact h j m h3 h4 (by unfold Pre; omega)
theorem okp_in {ls : Cps} {n d : Int} {i : Nat} (h : Okp ls n d i 0) : Okp ls n d i (i + 1) := fun j m h3 h4 h5 => by
  unfold Pre at h5
  exact h j m h3 h4 (by unfold Pre; omega)
theorem okp_all {ls : Cps} {n d : Int} {i : Nat} (h : Okp ls n d i 0) (hi : ls.length ≤ i) : ∀ j m, j < m → m < ls.length → per ls n d j m = 0 := fun j m h3 h4 => h j m h3 h4 (by unfold Pre; omega)
/-- What Hands answers. -/
inductive Hout (ls : Cps) (n d : Int) : Int → List Nat → Prop
  | many : 8 < ls.length → Hout ls n d 2 []
  | one : ls.length = 1 → per ls n d 0 0 ≠ 0 → Hout ls n d (per ls n d 0 0) []
  | pair (i k : Nat) : ls.length ≤ 8 → i < k → k < ls.length → Okp ls n d i k → per ls n d i k ≠ 0 → Hout ls n d (per ls n d i k) []
  | ok : ls.length ≤ 8 → (ls.length = 1 → per ls n d 0 0 = 0) → (∀ j m, j < m → m < ls.length → per ls n d j m = 0) → Hout ls n d 0 (hands (pis ls n d) ls.length)
theorem hout_one {ls : Cps} {n d e e' : Int} {r r' : List Nat} (h : Hout ls n d e r) (h' : Hout ls n d e' r') : e = e' ∧ r = r' := by
  have key : ∀ i k j m, i < k → k < ls.length → Okp ls n d i k → per ls n d i k ≠ 0 → j < m → m < ls.length → Okp ls n d j m → per ls n d j m ≠ 0 → i = j ∧ k = m := fun i k j m h1 h2 h3 h4 h5 h6 h7 h8 => by
    have a1 : ¬ Pre j m i k := fun h => h8 (h3 j m h5 h6 h)
    have a2 : ¬ Pre i k j m := fun h => h4 (h7 i k h1 h2 h)
    unfold Pre at a1 a2
    omega
  cases h with
  | many h1 =>
    cases h' with
    | many _ => exact ⟨rfl, rfl⟩
    | one h2 _ => omega
    | pair _ _ h2 => omega
    | ok h2 _ _ => omega
  | one h1 h2 =>
    cases h' with
    | many h3 => omega
    | one _ _ => exact ⟨rfl, rfl⟩
    | pair _ _ _ h3 h4 => omega
    | ok _ h3 _ => exact absurd (h3 h1) h2
  | pair i k h1 h2 h3 h4 h5 =>
    cases h' with
    | many h6 => omega
    | one h6 _ => omega
    | pair j m _ h7 h8 h9 h10 =>
      obtain ⟨rfl, rfl⟩ := key i k j m h2 h3 h4 h5 h7 h8 h9 h10
      exact ⟨rfl, rfl⟩
    | ok _ _ h6 => exact absurd (h6 i k h2 h3) h5
  | ok h1 h2 h3 =>
    cases h' with
    | many h4 => omega
    | one h4 h5 => exact absurd (h2 h4) h5
    | pair i k _ h4 h5 _ h6 => exact absurd (h3 i k h4 h5) h6
    | ok _ _ _ => exact ⟨rfl, rfl⟩
instance {j m i k : Nat} : Decidable (Pre j m i k) := by unfold Pre; exact inferInstance
/-- The cells of the table of copies, when all pairs before the pair i, k are in. -/
def tab (ls : Cps) (n d : Int) (i k x y : Nat) : Bool := decide (Pre (min x y) (max x y) i k) && pis ls n d x y
theorem tab_0 {ls : Cps} {n d : Int} {x y : Nat} : tab ls n d 0 0 x y = false := by
  unfold tab
  rw [decide_eq_false (by unfold Pre; omega)]
  rfl
theorem tab_in {ls : Cps} {n d : Int} {i x y : Nat} : tab ls n d i (i + 1) x y = tab ls n d i 0 x y := by
  unfold tab
  by_cases e : x = y
  · subst e; simp [pis]
  · congr 1
    exact decide_eq_decide.2 (by unfold Pre; omega)
theorem tab_row {ls : Cps} {n d : Int} {i k x y : Nat} (hk : ls.length ≤ k) : tab ls n d (i + 1) 0 x y = tab ls n d i k x y := by
  unfold tab
  by_cases e : ls.length ≤ x ∨ ls.length ≤ y
  · simp [pis_far e]
  · congr 1
    exact decide_eq_decide.2 (by unfold Pre; omega)
theorem tab_all {ls : Cps} {n d : Int} {i x y : Nat} (hi : ls.length ≤ i) : tab ls n d i 0 x y = pis ls n d x y := by
  unfold tab
  by_cases e : ls.length ≤ x ∨ ls.length ≤ y
  · simp [pis_far e]
  · rw [decide_eq_true (by unfold Pre; omega)]
    rfl
theorem tab_new {ls : Cps} {n d : Int} {i k x y : Nat} (hik : i < k) : tab ls n d i (k + 1) x y = if (x = i ∧ y = k) ∨ (x = k ∧ y = i) then tlIs (cp ls i) (cp ls k) n d else tab ls n d i k x y := by
  unfold tab
  by_cases e : (x = i ∧ y = k) ∨ (x = k ∧ y = i)
  · rw [if_pos e, decide_eq_true (by unfold Pre; omega)]
    rcases e with ⟨rfl, rfl⟩ | ⟨rfl, rfl⟩
    · rw [pis_lt hik]; rfl
    · rw [pis_comm, pis_lt hik]; rfl
  · rw [if_neg e]
    congr 1
    exact decide_eq_decide.2 (by unfold Pre; omega)
end Go.Proofs.Ytoljnbbhoeloeaa
