/- PLAIN: merging two sorted parts in place, by turning and by moving: what each step keeps. No program in sight. -/
import Derived.Test.YtoljnbbhoeloeaaStab
namespace Go.Proofs.Ytoljnbbhoeloeaa
open Go.Sort
/-- From a to b the places do not fall. -/
def Srt (a b : Nat) (d : Array Vb) : Prop := ∀ i j, a ≤ i → i < j → j < b → kv d[i]! ≤ kv d[j]!
/-- What a step between a and b keeps. -/
structure Rr (a b : Nat) (d d' : Array Vb) : Prop where
  keep : Keep d d'
  out : ∀ i, i < a ∨ b ≤ i → d'[i]! = d[i]!
  org : ∀ i, a ≤ i → i < b → ∃ j, a ≤ j ∧ j < b ∧ d'[i]! = d[j]!
theorem Rr.refl (a b : Nat) (d : Array Vb) : Rr a b d d := ⟨Keep.refl d, fun _ _ => rfl, fun i h1 h2 => ⟨i, h1, h2, rfl⟩⟩
theorem Rr.size {a b : Nat} {d d' : Array Vb} (h : Rr a b d d') : d'.size = d.size := h.keep.1
theorem Rr.trans {a b : Nat} {d d' d'' : Array Vb} (h : Rr a b d d') (h' : Rr a b d' d'') : Rr a b d d'' :=
  ⟨h.keep.trans h'.keep, fun i hi => (h'.out i hi).trans (h.out i hi), fun i h1 h2 => by
    obtain ⟨j, h3, h4, h5⟩ := h'.org i h1 h2
    obtain ⟨k, h6, h7, h8⟩ := h.org j h3 h4
    exact ⟨k, h6, h7, h5.trans h8⟩⟩
theorem Rr.mono {a b a' b' : Nat} {d d' : Array Vb} (h : Rr a b d d') (ha : a' ≤ a) (hb : b ≤ b') : Rr a' b' d d' :=
  ⟨h.keep, fun i hi => h.out i (by omega), fun i h1 h2 => by
    by_cases h3 : a ≤ i ∧ i < b
    · obtain ⟨j, h4, h5, h6⟩ := h.org i h3.1 h3.2
      exact ⟨j, by omega, by omega, h6⟩
    · exact ⟨i, h1, h2, h.out i (by omega)⟩⟩
theorem srt_out {a b a' b' : Nat} {d d' : Array Vb} (h : Rr a b d d') (hs : Srt a' b' d) (hd : b' ≤ a ∨ b ≤ a') : Srt a' b' d' := fun i j h1 h2 h3 => by
  rw [h.out i (by omega), h.out j (by omega)]
  exact hs i j h1 h2 h3
theorem srt_mono {a b a' b' : Nat} {d : Array Vb} (h : Srt a b d) (ha : a ≤ a') (hb : b' ≤ b) : Srt a' b' d := fun i j h1 h2 h3 => h i j (by omega) h2 (by omega)
theorem srt_le {a b i j : Nat} {d : Array Vb} (h : Srt a b d) (h1 : a ≤ i) (h2 : i ≤ j) (h3 : j < b) : kv d[i]! ≤ kv d[j]! := by
  rcases Nat.lt_or_ge i j with h4 | h4
  · exact h i j h1 h4 h3
  · obtain rfl : i = j := by omega
    exact Int.le_refl _
/-! ### two neighbours are exchanged -/
theorem swp_comm' (d : Array Vb) (j : Nat) (hj : j + 1 < d.size) : swp d j (j + 1) = swp d (j + 1) j := by
  refine Array.ext (by simp [swp]) fun i h1 h2 => ?_
  rw [← getElem!_pos _ i h1, ← getElem!_pos _ i h2, swp_get d (by omega) (by omega), swp_get d hj (by omega)]
  by_cases e1 : i = j + 1
  · rw [if_pos e1, if_neg (by omega), if_pos e1]
  · by_cases e2 : i = j
    · rw [if_neg e1, if_pos e2, if_pos e2]
    · rw [if_neg e1, if_neg e2, if_neg e2, if_neg e1]
theorem rr_swp {a b j : Nat} {d : Array Vb} (h1 : a ≤ j) (h2 : j + 1 < b) (hb : b ≤ d.size) (hne : kv d[j + 1]! ≠ kv d[j]!) : Rr a b d (swp d j (j + 1)) := by
  have hk := keep_swp (d := d) (j := j) (by omega) hne
  rw [← swp_comm' d j (by omega)] at hk
  refine ⟨hk, fun i hi => swp_other d j (j + 1) i (by omega) (by omega), fun i h3 h4 => ?_⟩
  by_cases e1 : i = j
  · subst e1; exact ⟨i + 1, by omega, h2, swp_left d i (i + 1) (by omega) (by omega)⟩
  · by_cases e2 : i = j + 1
    · subst e2; exact ⟨j, h1, by omega, swp_right d j (j + 1) (by omega)⟩
    · exact ⟨i, h3, h4, swp_other d j (j + 1) i e1 e2⟩
/-! ### the element at a is moved up to k -/
structure Up (a b k : Nat) (d dk : Array Vb) : Prop where
  rr : Rr a b d dk
  low : ∀ p, a ≤ p → p < k → dk[p]! = d[p + 1]!
  at_ : dk[k]! = d[a]!
  high : ∀ p, k < p → dk[p]! = d[p]!
theorem Up.start (a b : Nat) (d : Array Vb) : Up a b a d d := ⟨Rr.refl _ _ _, fun p h1 h2 => by omega, rfl, fun _ _ => rfl⟩
theorem Up.step {a b k : Nat} {d dk : Array Vb} (h : Up a b k d dk) (ha : a ≤ k) (hk : k + 1 < b) (hb : b ≤ d.size) (hl : kv d[k + 1]! < kv d[a]!) : Up a b (k + 1) d (swp dk k (k + 1)) := by
  have hs := h.rr.size
  have h1 := h.high (k + 1) (by omega)
  refine ⟨h.rr.trans (rr_swp ha hk (by omega) (by rw [h1, h.at_]; omega)), fun p h2 h3 => ?_, ?_, fun p h2 => ?_⟩
  · by_cases e : p = k
    · subst e; rw [swp_left dk p (p + 1) (by omega) (by omega), h1]
    · rw [swp_other dk k (k + 1) p e (by omega)]; exact h.low p h2 (by omega)
  · rw [swp_right dk k (k + 1) (by omega), h.at_]
  · rw [swp_other dk k (k + 1) p (by omega) (by omega)]; exact h.high p (by omega)
theorem Up.sorted {a b i : Nat} {d dk : Array Vb} (h : Up a b (i - 1) d dk) (hi : a + 1 ≤ i) (hib : i ≤ b) (hs : Srt (a + 1) b d) (hlo : ∀ p, a + 1 ≤ p → p < i → kv d[p]! < kv d[a]!) (hhi : ∀ p, i ≤ p → p < b → ¬ kv d[p]! < kv d[a]!) : Srt a b dk := by
  intro p q h1 h2 h3
  have hp : (p < i - 1 ∧ dk[p]! = d[p + 1]!) ∨ (p = i - 1 ∧ dk[p]! = d[a]!) ∨ (i - 1 < p ∧ dk[p]! = d[p]!) := by
    rcases Nat.lt_trichotomy p (i - 1) with e | e | e
    · exact .inl ⟨e, h.low p h1 e⟩
    · exact .inr (.inl ⟨e, by rw [e]; exact h.at_⟩)
    · exact .inr (.inr ⟨e, h.high p e⟩)
  have hq : (q < i - 1 ∧ dk[q]! = d[q + 1]!) ∨ (q = i - 1 ∧ dk[q]! = d[a]!) ∨ (i - 1 < q ∧ dk[q]! = d[q]!) := by
    rcases Nat.lt_trichotomy q (i - 1) with e | e | e
    · exact .inl ⟨e, h.low q (by omega) e⟩
    · exact .inr (.inl ⟨e, by rw [e]; exact h.at_⟩)
    · exact .inr (.inr ⟨e, h.high q e⟩)
  rcases hp with ⟨e1, e2⟩ | ⟨e1, e2⟩ | ⟨e1, e2⟩ <;> rcases hq with ⟨f1, f2⟩ | ⟨f1, f2⟩ | ⟨f1, f2⟩ <;> rw [e2, f2] <;> first | (exfalso; omega) | skip
  · exact hs (p + 1) (q + 1) (by omega) (by omega) (by omega)
  · have := hlo (p + 1) (by omega) (by omega); omega
  · exact hs (p + 1) q (by omega) (by omega) h3
  · have := hhi q (by omega) h3; omega
  · exact hs p q (by omega) h2 h3
/-! ### the element at m is moved down to k -/
structure Dn (a b m k : Nat) (d dk : Array Vb) : Prop where
  rr : Rr a b d dk
  high : ∀ p, k < p → p ≤ m → dk[p]! = d[p - 1]!
  at_ : dk[k]! = d[m]!
  low : ∀ p, p < k → dk[p]! = d[p]!
theorem Dn.start (a b m : Nat) (d : Array Vb) : Dn a b m m d d := ⟨Rr.refl _ _ _, fun p h1 h2 => by omega, rfl, fun _ _ => rfl⟩
theorem Dn.step {a b m k : Nat} {d dk : Array Vb} (h : Dn a b m (k + 1) d dk) (ha : a ≤ k) (hk : k + 1 < b) (hm : k + 1 ≤ m) (hb : b ≤ d.size) (hl : kv d[m]! < kv d[k]!) : Dn a b m k d (swp dk (k + 1) k) := by
  have hs := h.rr.size
  have h1 := h.low k (by omega)
  rw [← swp_comm' dk k (by omega)]
  refine ⟨h.rr.trans (rr_swp ha hk (by omega) (by rw [h1, h.at_]; omega)), fun p h2 h3 => ?_, ?_, fun p h2 => ?_⟩
  · by_cases e : p = k + 1
    · subst e; rw [swp_right dk k (k + 1) (by omega), h1]; rfl
    · rw [swp_other dk k (k + 1) p (by omega) e]; exact h.high p (by omega) h3
  · rw [swp_left dk k (k + 1) (by omega) (by omega), h.at_]
  · rw [swp_other dk k (k + 1) p (by omega) (by omega)]; exact h.low p (by omega)
theorem Dn.sorted {a m i : Nat} {d dk : Array Vb} (h : Dn a (m + 1) m i d dk) (hi : a ≤ i) (him : i ≤ m) (hs : Srt a m d) (hlo : ∀ p, a ≤ p → p < i → ¬ kv d[m]! < kv d[p]!) (hhi : ∀ p, i ≤ p → p < m → kv d[m]! < kv d[p]!) : Srt a (m + 1) dk := by
  intro p q h1 h2 h3
  have hp : (p < i ∧ dk[p]! = d[p]!) ∨ (p = i ∧ dk[p]! = d[m]!) ∨ (i < p ∧ dk[p]! = d[p - 1]!) := by
    rcases Nat.lt_trichotomy p i with e | e | e
    · exact .inl ⟨e, h.low p e⟩
    · exact .inr (.inl ⟨e, by rw [e]; exact h.at_⟩)
    · exact .inr (.inr ⟨e, h.high p e (by omega)⟩)
  have hq : (q < i ∧ dk[q]! = d[q]!) ∨ (q = i ∧ dk[q]! = d[m]!) ∨ (i < q ∧ dk[q]! = d[q - 1]!) := by
    rcases Nat.lt_trichotomy q i with e | e | e
    · exact .inl ⟨e, h.low q e⟩
    · exact .inr (.inl ⟨e, by rw [e]; exact h.at_⟩)
    · exact .inr (.inr ⟨e, h.high q e (by omega)⟩)
  rcases hp with ⟨e1, e2⟩ | ⟨e1, e2⟩ | ⟨e1, e2⟩ <;> rcases hq with ⟨f1, f2⟩ | ⟨f1, f2⟩ | ⟨f1, f2⟩ <;> rw [e2, f2] <;> first | (exfalso; omega) | skip
  · exact hs p q (by omega) h2 (by omega)
  · have := hlo p (by omega) e1; omega
  · exact srt_le hs h1 (by omega) (by omega)
  · have := hhi (q - 1) (by omega) (by omega); omega
  · exact hs (p - 1) (q - 1) (by omega) (by omega) (by omega)
end Go.Proofs.Ytoljnbbhoeloeaa
