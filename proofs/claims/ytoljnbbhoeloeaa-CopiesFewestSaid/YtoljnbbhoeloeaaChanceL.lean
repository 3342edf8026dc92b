/- PLAIN: what the fraction of the test of two tallies keeps. -/
import Derived.Test.YtoljnbbhoeloeaaFish
namespace Go.Proofs.Ytoljnbbhoeloeaa
open Go.RowKit
theorem fair_swap {a1 a2 b1 b2 : Int} : Fair b1 b2 a1 a2 ↔ Fair a1 a2 b1 b2 := by unfold Fair; constructor <;> (intro h; omega)
theorem fair_turn {a1 a2 b1 b2 : Int} : Fair a2 a1 b2 b1 ↔ Fair a1 a2 b1 b2 := by unfold Fair; constructor <;> (intro h; omega)
/-- The numbers of a fair test, as natural numbers. -/
theorem fI_nat (x1 x2 y1 y2 : Nat) (h : x1 + x2 + y1 + y2 ≤ 60) :
    fNumI x1 x2 y1 y2 = (fNum (x1 + x2) (y1 + y2) (x1 + y1) x1 / Nat.gcd (fNum (x1 + x2) (y1 + y2) (x1 + y1) x1) (fDen (x1 + x2) (y1 + y2) (x1 + y1)) : Nat) ∧
    fDenI x1 x2 y1 y2 = (fDen (x1 + x2) (y1 + y2) (x1 + y1) / Nat.gcd (fNum (x1 + x2) (y1 + y2) (x1 + y1) x1) (fDen (x1 + x2) (y1 + y2) (x1 + y1)) : Nat) := by
  have hF : Fair (x1 : Int) x2 y1 y2 := ⟨by omega, by omega, by omega, by omega, by omega⟩
  have e1 : ((x1 : Int) + x2).toNat = x1 + x2 := by omega
  have e2 : ((y1 : Int) + y2).toNat = y1 + y2 := by omega
  have e3 : ((x1 : Int) + y1).toNat = x1 + y1 := by omega
  have e4 : ((x1 : Int)).toNat = x1 := by omega
  unfold fNumI fDenI
  rw [if_pos hF, if_pos hF, e1, e2, e3, e4]
  exact ⟨rfl, rfl⟩
theorem fI_unfair {a1 a2 b1 b2 : Int} (h : ¬ Fair a1 a2 b1 b2) : fNumI a1 a2 b1 b2 = 0 ∧ fDenI a1 a2 b1 b2 = 0 ∧ fErr a1 a2 b1 b2 = 80 := by
  unfold fNumI fDenI fErr
  rw [if_neg h, if_neg h, if_neg h]
  exact ⟨rfl, rfl, rfl⟩
theorem fErr_fair {a1 a2 b1 b2 : Int} (h : Fair a1 a2 b1 b2) : fErr a1 a2 b1 b2 = 0 := if_pos h
theorem fair_ex {a1 a2 b1 b2 : Int} (h : Fair a1 a2 b1 b2) : ∃ x1 x2 y1 y2 : Nat, a1 = x1 ∧ a2 = x2 ∧ b1 = y1 ∧ b2 = y2 ∧ x1 + x2 + y1 + y2 ≤ 60 := by
  obtain ⟨h1, h2, h3, h4, h5⟩ := h
  exact ⟨a1.toNat, a2.toNat, b1.toNat, b2.toNat, by omega, by omega, by omega, by omega, by omega⟩
theorem fRes_swap (a1 a2 b1 b2 : Int) : fRes b1 b2 a1 a2 = fRes a1 a2 b1 b2 := by
  by_cases h : Fair a1 a2 b1 b2
  · have he : fErr b1 b2 a1 a2 = fErr a1 a2 b1 b2 := by rw [fErr_fair h, fErr_fair (fair_swap.2 h)]
    obtain ⟨x1, x2, y1, y2, rfl, rfl, rfl, rfl, hs⟩ := fair_ex h
    obtain ⟨p1, p2⟩ := fI_nat x1 x2 y1 y2 hs
    obtain ⟨q1, q2⟩ := fI_nat y1 y2 x1 x2 (by omega)
    have hx : y1 = (x1 + y1) - x1 := by omega
    have d := fDen_swap (x1 + x2) (y1 + y2) (x1 + y1)
    have n := fNum_swap (m := x1 + x2) (o := y1 + y2) (r := x1 + y1) (x := x1) (by omega)
    rw [← hx] at n
    rw [Nat.add_comm y1 x1, d, n] at q1 q2
    unfold fRes
    rw [p1, p2, q1, q2, he]
  · obtain ⟨p1, p2, p3⟩ := fI_unfair h
    obtain ⟨q1, q2, q3⟩ := fI_unfair (fun g => h (fair_swap.1 g))
    unfold fRes
    rw [p1, p2, p3, q1, q2, q3]
theorem fRes_turn (a1 a2 b1 b2 : Int) : fRes a2 a1 b2 b1 = fRes a1 a2 b1 b2 := by
  by_cases h : Fair a1 a2 b1 b2
  · have he : fErr a2 a1 b2 b1 = fErr a1 a2 b1 b2 := by rw [fErr_fair h, fErr_fair (fair_turn.2 h)]
    obtain ⟨x1, x2, y1, y2, rfl, rfl, rfl, rfl, hs⟩ := fair_ex h
    obtain ⟨p1, p2⟩ := fI_nat x1 x2 y1 y2 hs
    obtain ⟨q1, q2⟩ := fI_nat x2 x1 y2 y1 (by omega)
    have hr : x1 + y1 ≤ (x1 + x2) + (y1 + y2) := by omega
    have hx : x2 = (x1 + x2) - x1 := by omega
    have hy : x2 + y2 = (x1 + x2) + (y1 + y2) - (x1 + y1) := by omega
    have d := fDen_turn (m := x1 + x2) (o := y1 + y2) hr
    have n := fNum_turn (m := x1 + x2) (o := y1 + y2) (x := x1) hr (by omega)
    rw [← hy] at d n
    rw [← hx] at n
    rw [Nat.add_comm x2 x1, Nat.add_comm y2 y1, d, n] at q1 q2
    unfold fRes
    rw [p1, p2, q1, q2, he]
  · obtain ⟨p1, p2, p3⟩ := fI_unfair h
    obtain ⟨q1, q2, q3⟩ := fI_unfair (fun g => h (fair_turn.1 g))
    unfold fRes
    rw [p1, p2, p3, q1, q2, q3]
/-- What is said of the fraction of a fair test. -/
theorem fair_says {a1 a2 b1 b2 : Int} (h : Fair a1 a2 b1 b2) : ∃ n d : Nat, fNumI a1 a2 b1 b2 = n ∧ fDenI a1 a2 b1 b2 = d ∧ 1 ≤ n ∧ n ≤ d ∧ d ≤ 2 ^ 60 ∧ Nat.gcd n d = 1 ∧
    ((a1 + b1 = 0 ∨ a2 + b2 = 0 ∨ a1 + a2 = 0 ∨ b1 + b2 = 0 ∨ (a1 = b1 ∧ a2 = b2)) → d = 1) := by
  obtain ⟨x1, x2, y1, y2, rfl, rfl, rfl, rfl, hs⟩ := fair_ex h
  obtain ⟨p1, p2⟩ := fI_nat x1 x2 y1 y2 hs
  have np := fNum_pos (m := x1 + x2) (o := y1 + y2) (r := x1 + y1) (x := x1) (by omega) (by omega) (by omega)
  have nl := fNum_le (x1 + x2) (y1 + y2) (x1 + y1) x1
  have dl := fDen_le (x1 + x2) (y1 + y2) (x1 + y1)
  have d2 : (2 : Nat) ^ (x1 + x2 + (y1 + y2)) ≤ 2 ^ 60 := Nat.pow_le_pow_right (by omega) (by omega)
  have hone : (x1 + y1 = 0 ∨ x2 + y2 = 0 ∨ x1 + x2 = 0 ∨ y1 + y2 = 0 ∨ (x1 = y1 ∧ x2 = y2)) → fNum (x1 + x2) (y1 + y2) (x1 + y1) x1 = fDen (x1 + x2) (y1 + y2) (x1 + y1) := by
    intro ho
    rcases ho with ho | ho | ho | ho | ⟨rfl, rfl⟩
    · exact one_sums (by omega) (by omega) (by omega) (.inl (by omega))
    · exact one_sums (by omega) (by omega) (by omega) (.inr (.inl (by omega)))
    · exact one_sums (by omega) (by omega) (by omega) (.inr (.inr (.inl (by omega))))
    · exact one_sums (by omega) (by omega) (by omega) (.inr (.inr (.inr (by omega))))
    · exact one_same
  refine ⟨_, _, p1, p2, ?_⟩
  generalize fNum (x1 + x2) (y1 + y2) (x1 + y1) x1 = P at *
  generalize fDen (x1 + x2) (y1 + y2) (x1 + y1) = Q at *
  have hg : 0 < Nat.gcd P Q := Nat.gcd_pos_of_pos_left _ np
  have h1 := Nat.gcd_dvd_left P Q
  have h2 := Nat.gcd_dvd_right P Q
  refine ⟨Nat.div_pos (Nat.le_of_dvd np h1) hg, Nat.div_le_div_right nl, Nat.le_trans (Nat.div_le_self _ _) (Nat.le_trans dl d2), ?_, fun ho => ?_⟩
  · rw [Nat.gcd_div h1 h2, Nat.div_self hg]
  · have := hone (by omega)
    subst this
    rw [Nat.gcd_self]
    exact Nat.div_self np
end Go.Proofs.Ytoljnbbhoeloeaa
