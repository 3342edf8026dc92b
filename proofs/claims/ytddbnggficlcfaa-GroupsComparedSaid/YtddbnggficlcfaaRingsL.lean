/- Plain law: a ring stands only at the head of a group. -/
import Derived.Test.YtddbnggficlcfaaRings
namespace Go.Proofs.Ytddbnggficlcfaa
open Go.RowKit Go.Shelf
theorem rgsL_nil {rg : Nat → Nat → List (Nat × Nat × Nat)} {lv : Nat → Nat} : ∀ (ks : List Nat) (r : Nat), (∀ k ∈ ks, ∀ r, rg k r = []) → rgsL rg lv ks r = []
  | [], _, _ => rfl
  | k :: ks, r, h => by
    rw [rgsL, h k (by simp) r, rgsL_nil ks _ fun x hx => h x (by simp [hx])]
    rfl
theorem rgs_none {l : List Nd} (hw : WfN l) (hR : ∀ i, i < l.length → kd l i = 5 → dep l i ≤ 0) : ∀ (f i : Nat) (r : Nat), i < l.length → 0 < dep l i → rgs l f (i : Int) r = []
  | 0, _, _, _, _ => rfl
  | f + 1, i, r, hi, hd => by
    unfold rgs
    split
    · rfl
    · rw [rgsL_nil (ordK l (i : Int)) r fun k hk r => by
        obtain ⟨_, h2, h3, _⟩ := (kid_iff hw hi).1 (ordK_mem hk)
        exact rgs_none hw hR f k r h2 (by omega)]
      rw [if_neg fun h => by have := hR i hi h.2; omega]
      rfl
theorem rgs_top {l : List Nd} (hw : WfN l) (hd : DepOk l) (hR : ∀ i, i < l.length → kd l i = 5 → dep l i ≤ 0) (f i : Nat) (r : Nat) (hf : 0 < f) (hi : i < l.length) : rgs l f (i : Int) r = if kd l i = 5 then [(i, r, r + (lvs l f (i : Int)).length)] else [] := by
  obtain ⟨g, rfl⟩ : ∃ g, f = g + 1 := ⟨f - 1, by omega⟩
  unfold rgs
  split
  · rename_i h
    rw [if_neg]
    intro h5
    have := h.2
    rw [show (i : Int).toNat = i from rfl, h5] at this
    cases this
  · rw [rgsL_nil (ordK l (i : Int)) r fun k hk r => by
      obtain ⟨_, h2, h3, _⟩ := (kid_iff hw hi).1 (ordK_mem hk)
      have := (hd i hi).1
      exact rgs_none hw hR g k r h2 (by omega)]
    rw [List.nil_append, show (i : Int).toNat = i from rfl]
    by_cases h5 : kd l i = 5
    · rw [if_pos ⟨by omega, h5⟩, if_pos h5]
    · rw [if_neg (fun h => h5 h.2), if_neg h5]
theorem spans_rn (l : List Nd) : spans l = (rn l l.length (kidsOf l (-1)) 0 (kidsOf l (-1)).length).map spOf := by
  unfold spans ringsOf
  rw [rgs_no (fun h => by have := h.1; omega)]
  rw [if_neg (fun h => by have := h.1; omega), List.append_nil]
  have : ordK l (-1) = kidsOf l (-1) := if_neg (fun h => by have := h.1; omega)
  rw [this]
end Go.Proofs.Ytddbnggficlcfaa
