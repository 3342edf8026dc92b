/- PLAIN: a part that is turned, and the merge by turning. No program in sight. -/
import Derived.Test.YtoljnbbhoeloeaaSymL
namespace Go.Proofs.Ytoljnbbhoeloeaa
open Go.Sort
/-- k elements from a on, and as many from b on, have been exchanged. -/
def Exch (a b k : Nat) (d dk : Array Vb) : Prop := dk.size = d.size ∧ ∀ p, dk[p]! = if a ≤ p ∧ p < a + k then d[p + (b - a)]! else if b ≤ p ∧ p < b + k then d[p - (b - a)]! else d[p]!
theorem Exch.start (a b : Nat) (d : Array Vb) : Exch a b 0 d d := ⟨rfl, fun p => by rw [if_neg (by omega), if_neg (by omega)]⟩
theorem Exch.step {a b k n : Nat} {d dk : Array Vb} (h : Exch a b k d dk) (hk : k < n) (hab : a + n ≤ b) (hb : b + n ≤ d.size) : Exch a b (k + 1) d (swp dk (a + k) (b + k)) := by
  refine ⟨by rw [size_swp, h.1], fun p => ?_⟩
  have hs := h.1
  rw [swp_get dk (by omega) (by omega), h.2 (a + k), h.2 (b + k), h.2 p]
  rw [if_neg (by omega : ¬ (a ≤ a + k ∧ a + k < a + k)), if_neg (by omega : ¬ (b ≤ a + k ∧ a + k < b + k)), if_neg (by omega : ¬ (a ≤ b + k ∧ b + k < a + k)), if_neg (by omega : ¬ (b ≤ b + k ∧ b + k < b + k))]
  by_cases e1 : p = b + k
  · rw [if_pos e1, if_neg (by omega), if_pos (by omega)]; congr 1; omega
  · rw [if_neg e1]
    by_cases e2 : p = a + k
    · rw [if_pos e2, if_pos (by omega)]; congr 1; omega
    · rw [if_neg e2]
      by_cases e3 : a ≤ p ∧ p < a + k
      · rw [if_pos e3, if_pos (by omega)]
      · rw [if_neg e3, if_neg (by omega : ¬ (a ≤ p ∧ p < a + (k + 1)))]
        by_cases e4 : b ≤ p ∧ p < b + k
        · rw [if_pos e4, if_pos (by omega)]
        · rw [if_neg e4, if_neg (by omega)]
/-- Where the element comes from that stands at p when [s, m) and [m, e) have changed places. -/
def rix (s m e p : Nat) : Nat := if s ≤ p ∧ p < s + (e - m) then p + (m - s) else if s + (e - m) ≤ p ∧ p < e then p - (e - m) else p
def Rot (s m e : Nat) (d d' : Array Vb) : Prop := d'.size = d.size ∧ ∀ p, d'[p]! = d[rix s m e p]!
theorem Rot.none_ {s m e : Nat} (d : Array Vb) (h : s = m ∨ m = e) : Rot s m e d d := ⟨rfl, fun p => by
  have : rix s m e p = p := by
    unfold rix
    split
    · omega
    · split <;> omega
  rw [this]⟩
/-- What is left to be turned: i before m, j from m on. -/
def Left (a m b i j : Nat) (d dk : Array Vb) : Prop := dk.size = d.size ∧ ∀ p, dk[rix (m - i) m (m + j) p]! = d[rix a m b p]!
theorem Left.start {a m b : Nat} (ha : a ≤ m) (hb : m ≤ b) (d : Array Vb) : Left a m b (m - a) (b - m) d d := ⟨rfl, fun p => by rw [show m - (m - a) = a by omega, show m + (b - m) = b by omega]⟩
theorem Left.more {a m b i j : Nat} {d dk dk' : Array Vb} (h : Left a m b i j d dk) (him : i ≤ m) (hij : j < i) (hj : 0 < j) (hx : Exch (m - i) m j dk dk') : Left a m b (i - j) j d dk' := by
  refine ⟨hx.1.trans h.1, fun p => ?_⟩
  rw [← h.2 p, hx.2]
  unfold rix
  by_cases c1 : m - i ≤ p ∧ p < m - i + j
  · -- p is in its place already
    rw [if_neg (by omega : ¬ (m - (i - j) ≤ p ∧ p < m - (i - j) + (m + j - m))), if_neg (by omega : ¬ (m - (i - j) + (m + j - m) ≤ p ∧ p < m + j)), if_pos (by omega), if_pos (by omega)]
  · by_cases c2 : m - (i - j) ≤ p ∧ p < m - (i - j) + (m + j - m)
    · rw [if_pos c2, if_neg (by omega), if_pos (by omega), if_neg (by omega), if_pos (by omega)]
      congr 1; omega
    · rw [if_neg c2]
      by_cases c3 : m - (i - j) + (m + j - m) ≤ p ∧ p < m + j
      · rw [if_pos c3, if_neg (by omega), if_neg (by omega), if_neg (by omega), if_pos (by omega)]
      · rw [if_neg c3, if_neg (by omega), if_neg (by omega), if_neg (by omega), if_neg (by omega)]
theorem Left.less {a m b i j : Nat} {d dk dk' : Array Vb} (h : Left a m b i j d dk) (him : i ≤ m) (hij : i < j) (hi : 0 < i) (hx : Exch (m - i) (m + j - i) i dk dk') : Left a m b i (j - i) d dk' := by
  refine ⟨hx.1.trans h.1, fun p => ?_⟩
  rw [← h.2 p, hx.2]
  unfold rix
  by_cases c1 : m + j - i ≤ p ∧ p < m + j
  · rw [if_neg (by omega : ¬ (m - i ≤ p ∧ p < m - i + (m + (j - i) - m))), if_neg (by omega : ¬ (m - i + (m + (j - i) - m) ≤ p ∧ p < m + (j - i))), if_neg (by omega), if_pos (by omega), if_neg (by omega), if_pos (by omega)]
    congr 1; omega
  · by_cases c2 : m - i ≤ p ∧ p < m - i + (m + (j - i) - m)
    · rw [if_pos c2, if_neg (by omega), if_neg (by omega), if_pos (by omega)]
    · rw [if_neg c2]
      by_cases c3 : m - i + (m + (j - i) - m) ≤ p ∧ p < m + (j - i)
      · rw [if_pos c3, if_pos (by omega), if_pos (by omega)]
        congr 1; omega
      · rw [if_neg c3, if_neg (by omega), if_neg (by omega), if_neg (by omega), if_neg (by omega)]
theorem Left.done {a m b i : Nat} {d dk dk' : Array Vb} (h : Left a m b i i d dk) (him : i ≤ m) (hx : Exch (m - i) m i dk dk') : Rot a m b d dk' := by
  refine ⟨hx.1.trans h.1, fun p => ?_⟩
  rw [← h.2 p, hx.2]
  unfold rix
  by_cases c1 : m - i ≤ p ∧ p < m - i + i
  · rw [if_pos c1, if_pos (by omega)]
  · rw [if_neg c1]
    by_cases c2 : m ≤ p ∧ p < m + i
    · rw [if_pos c2, if_neg (by omega), if_pos (by omega)]; congr 1; omega
    · rw [if_neg c2, if_neg (by omega), if_neg (by omega)]
/-- Two parts change places that have no place in common: the elements of each place stand as they stood. -/
theorem keep_rot {s m e : Nat} {d d' : Array Vb} (h : Rot s m e d d') (hs : s ≤ m) (he : m ≤ e) (hb : e ≤ d.size) (hlt : ∀ p q, s ≤ p → p < m → m ≤ q → q < e → kv d[q]! < kv d[p]!) : Keep d d' := by
  refine ⟨h.1, fun x => ?_⟩
  have e1 : d.toList = d.toList.take s ++ ((d.toList.drop s).take (m - s) ++ ((d.toList.drop m).take (e - m) ++ d.toList.drop e)) := by
    conv => lhs; rw [← List.take_append_drop s d.toList]
    congr 1
    conv => lhs; rw [← List.take_append_drop (m - s) (d.toList.drop s)]
    congr 1
    rw [List.drop_drop, show s + (m - s) = m by omega]
    conv => lhs; rw [← List.take_append_drop (e - m) (d.toList.drop m)]
    rw [List.drop_drop, show m + (e - m) = e by omega]
  have e2 : d'.toList = d.toList.take s ++ ((d.toList.drop m).take (e - m) ++ ((d.toList.drop s).take (m - s) ++ d.toList.drop e)) := by
    refine List.ext_getElem (by simp [h.1]; omega) fun i h1 h2 => ?_
    have hi : i < d'.size := by simpa using h1
    have hi2 : i < d.size := by rw [← h.1]; exact hi
    have hg : d'.toList[i] = d'[i]! := by rw [getElem!_pos d' i hi]; simp
    rw [hg, h.2 i]
    have hat : ∀ j, j < d.size → d[j]! = d.toList[j]! := fun j hj => by rw [getElem!_pos d j hj, getElem!_pos d.toList j (by simpa using hj)]; simp
    have hr : rix s m e i < d.size := by unfold rix; split; omega; split <;> omega
    rw [hat _ hr, getElem!_pos d.toList _ (by simpa using hr)]
    simp only [List.getElem_append, List.getElem_take, List.getElem_drop, List.length_take, List.length_drop, Array.length_toList]
    unfold rix
    by_cases c1 : i < s
    · simp only [if_neg (by omega : ¬ (s ≤ i ∧ i < s + (e - m))), if_neg (by omega : ¬ (s + (e - m) ≤ i ∧ i < e))]
      rw [dif_pos (by omega)]
    · by_cases c2 : i < s + (e - m)
      · simp only [if_pos (by omega : s ≤ i ∧ i < s + (e - m))]
        rw [dif_neg (by omega), dif_pos (by omega)]
        congr 1; omega
      · by_cases c3 : i < e
        · simp only [if_neg (by omega : ¬ (s ≤ i ∧ i < s + (e - m))), if_pos (by omega : s + (e - m) ≤ i ∧ i < e)]
          rw [dif_neg (by omega), dif_neg (by omega), dif_pos (by omega)]
          congr 1; omega
        · simp only [if_neg (by omega : ¬ (s ≤ i ∧ i < s + (e - m))), if_neg (by omega : ¬ (s + (e - m) ≤ i ∧ i < e))]
          rw [dif_neg (by omega), dif_neg (by omega), dif_neg (by omega)]
          congr 1; omega
  have hA : ∀ t ∈ (d.toList.drop s).take (m - s), ∃ p, s ≤ p ∧ p < m ∧ t = d[p]! := fun t ht => by
    obtain ⟨i, hi, rfl⟩ := List.getElem_of_mem ht
    simp at hi
    exact ⟨s + i, by omega, by omega, by rw [getElem!_pos d _ (by omega)]; simp⟩
  have hB : ∀ t ∈ (d.toList.drop m).take (e - m), ∃ p, m ≤ p ∧ p < e ∧ t = d[p]! := fun t ht => by
    obtain ⟨i, hi, rfl⟩ := List.getElem_of_mem ht
    simp at hi
    exact ⟨m + i, by omega, by omega, by rw [getElem!_pos d _ (by omega)]; simp⟩
  rw [e2]
  conv => rhs; rw [e1]
  generalize (d.toList.drop s).take (m - s) = A at hA
  generalize (d.toList.drop m).take (e - m) = B at hB
  simp only [List.filter_append]
  congr 1
  rw [← List.append_assoc, ← List.append_assoc]
  congr 1
  by_cases hx : ∃ t ∈ A, kv t = x
  · obtain ⟨t, ht, hk⟩ := hx
    have : B.filter (fun t => decide (kv t = x)) = [] := List.filter_eq_nil_iff.2 fun u hu => by
      obtain ⟨p, p1, p2, rfl⟩ := hA t ht
      obtain ⟨q, q1, q2, rfl⟩ := hB u hu
      have := hlt p q p1 p2 q1 q2
      simp; omega
    rw [this, List.append_nil, List.nil_append]
  · have : A.filter (fun t => decide (kv t = x)) = [] := List.filter_eq_nil_iff.2 fun u hu => by
      simp; exact fun h => hx ⟨u, hu, h⟩
    rw [this, List.append_nil, List.nil_append]
theorem rr_rot {s m e : Nat} {d d' : Array Vb} (h : Rot s m e d d') (hs : s ≤ m) (he : m ≤ e) (hb : e ≤ d.size) (hlt : ∀ p q, s ≤ p → p < m → m ≤ q → q < e → kv d[q]! < kv d[p]!) : Rr s e d d' :=
  ⟨keep_rot h hs he hb hlt, fun i hi => by rw [h.2 i]; unfold rix; rw [if_neg (by omega), if_neg (by omega)], fun i h1 h2 => ⟨rix s m e i, by unfold rix; split; omega; split <;> omega, by unfold rix; split; omega; split <;> omega, h.2 i⟩⟩
end Go.Proofs.Ytoljnbbhoeloeaa
