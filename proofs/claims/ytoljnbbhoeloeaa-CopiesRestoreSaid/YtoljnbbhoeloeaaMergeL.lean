/- PLAIN: the merge in place of two sorted parts, and the blocks of the stable sort. No program in sight. -/
import Derived.Test.YtoljnbbhoeloeaaRotL
namespace Go.Proofs.Ytoljnbbhoeloeaa
open Go.Sort
/-- What a merge yields. -/
def Merged (a b : Nat) (d d' : Array Vb) : Prop := Rr a b d d' ∧ Srt a b d'
/-- What the search for the place to part has found: below s no exchange is due, from r on it is. -/
structure Found (a m b lo hi n s r : Nat) (d : Array Vb) : Prop where
  h1 : lo ≤ s
  h2 : s ≤ r
  h3 : r ≤ hi
  low : ∀ c, lo ≤ c → c < s → ¬ kv d[n - 1 - c]! < kv d[c]!
  high : ∀ c, r ≤ c → c < hi → kv d[n - 1 - c]! < kv d[c]!
/-- The bounds of the search. -/
structure Bds (a m b mid lo hi n : Nat) : Prop where
  am : a + 2 ≤ m
  mb : m + 2 ≤ b
  hmid : mid = (a + b) / 2
  hn : n = mid + m
  hlo : lo = if mid < m then n - b else a
  hhi : hi = if mid < m then mid else m
theorem Bds.le {a m b mid lo hi n : Nat} (B : Bds a m b mid lo hi n) : a ≤ lo ∧ lo ≤ hi ∧ hi ≤ m ∧ hi ≤ mid ∧ a < mid ∧ mid < b ∧ n = mid + m ∧ m ≤ n - hi ∧ n - lo ≤ b ∧ hi < n ∧ (lo = a ∨ n - lo = b) ∧ (hi = m ∨ n - hi = m) := by
  obtain ⟨h1, h2, h3, h4, h5, h6⟩ := B
  subst h5; subst h6
  by_cases h : mid < m
  · rw [if_pos h, if_pos h]; refine ⟨by omega, by omega, by omega, by omega, by omega, by omega, by omega, by omega, by omega, by omega, .inr (by omega), .inr (by omega)⟩
  · rw [if_neg h, if_neg h]; refine ⟨by omega, by omega, by omega, by omega, by omega, by omega, by omega, by omega, by omega, by omega, .inl rfl, .inl rfl⟩
theorem Found.start {a m b mid lo hi n : Nat} (B : Bds a m b mid lo hi n) (d : Array Vb) : Found a m b lo hi n lo hi d := by
  obtain ⟨g1, g2, _⟩ := B.le
  exact ⟨Nat.le_refl _, g2, Nat.le_refl _, fun c h1 h2 => by omega, fun c h1 h2 => by omega⟩
theorem Found.up {a m b mid lo hi n s r : Nat} (B : Bds a m b mid lo hi n) {d : Array Vb} (F : Found a m b lo hi n s r d) (hL : Srt a m d) (hR : Srt m b d) (hsr : s < r) (h : ¬ kv d[n - 1 - (s + r) / 2]! < kv d[(s + r) / 2]!) : Found a m b lo hi n ((s + r) / 2 + 1) r d := by
  obtain ⟨g1, g2, g3, g4, g5, g6, g7, g8, g9, g10, _⟩ := B.le
  obtain ⟨f1, f2, f3, f4, f5⟩ := F
  refine ⟨by omega, by omega, f3, fun c h1 h2 => ?_, f5⟩
  have e1 := srt_le hL (i := c) (j := (s + r) / 2) (by omega) (by omega) (by omega)
  have e2 := srt_le hR (i := n - 1 - (s + r) / 2) (j := n - 1 - c) (by omega) (by omega) (by omega)
  omega
theorem Found.down {a m b mid lo hi n s r : Nat} (B : Bds a m b mid lo hi n) {d : Array Vb} (F : Found a m b lo hi n s r d) (hL : Srt a m d) (hR : Srt m b d) (hsr : s < r) (h : kv d[n - 1 - (s + r) / 2]! < kv d[(s + r) / 2]!) : Found a m b lo hi n s ((s + r) / 2) d := by
  obtain ⟨g1, g2, g3, g4, g5, g6, g7, g8, g9, g10, _⟩ := B.le
  obtain ⟨f1, f2, f3, f4, f5⟩ := F
  refine ⟨f1, by omega, by omega, f4, fun c h1 h2 => ?_⟩
  have e1 := srt_le hL (i := (s + r) / 2) (j := c) (by omega) h1 (by omega)
  have e2 := srt_le hR (i := n - 1 - c) (j := n - 1 - (s + r) / 2) (by omega) (by omega) (by omega)
  omega
/-- Behind the turn: both halves are of two sorted parts, and none of the first is above one of the second. -/
theorem turned {a m b mid lo hi n s : Nat} (B : Bds a m b mid lo hi n) {d d1 : Array Vb} (F : Found a m b lo hi n s s d) (hL : Srt a m d) (hR : Srt m b d) (hb : b ≤ d.size) (hr : Rot s m (n - s) d d1) :
    a ≤ s ∧ s ≤ mid ∧ mid ≤ n - s ∧ n - s ≤ b ∧ Rr a b d d1 ∧ Srt a s d1 ∧ Srt s mid d1 ∧ Srt mid (n - s) d1 ∧ Srt (n - s) b d1 ∧ ∀ p q, a ≤ p → p < mid → mid ≤ q → q < b → kv d1[p]! ≤ kv d1[q]! := by
  obtain ⟨g1, g2, g3, g4, g5, g6, g7, g8, g9, g10, g11, g12⟩ := B.le
  obtain ⟨f1, f2, f3, f4, f5⟩ := F
  -- the elements that change places
  have hlt : ∀ p q, s ≤ p → p < m → m ≤ q → q < n - s → kv d[q]! < kv d[p]! := fun p q h1 h2 h3 h4 => by
    have hsh : s < hi := by omega
    have e := f5 s (Nat.le_refl _) hsh
    have e1 := srt_le hL (i := s) (j := p) (by omega) h1 h2
    have e2 := srt_le hR (i := q) (j := n - 1 - s) h3 (by omega) (by omega)
    omega
  have hlo : ∀ p q, a ≤ p → p < s → n - s ≤ q → q < b → kv d[p]! ≤ kv d[q]! := fun p q h1 h2 h3 h4 => by
    have hsl : lo < s := by omega
    have e := f4 (s - 1) (by omega) (by omega)
    have e1 := srt_le hL (i := p) (j := s - 1) h1 (by omega) (by omega)
    have e2 := srt_le hR (i := n - 1 - (s - 1)) (j := q) (by omega) (by omega) h4
    omega
  have hrr : Rr a b d d1 := (rr_rot hr (by omega) (by omega) (by omega) hlt).mono (by omega) (by omega)
  have at_ : ∀ p, (p < s ∧ d1[p]! = d[p]!) ∨ (s ≤ p ∧ p < mid ∧ d1[p]! = d[p + (m - s)]!) ∨ (mid ≤ p ∧ p < n - s ∧ d1[p]! = d[p - (n - s - m)]!) ∨ (n - s ≤ p ∧ d1[p]! = d[p]!) := fun p => by
    have := hr.2 p
    unfold rix at this
    by_cases c1 : s ≤ p ∧ p < s + (n - s - m)
    · rw [if_pos c1] at this; exact .inr (.inl ⟨c1.1, by omega, this⟩)
    · rw [if_neg c1] at this
      by_cases c2 : s + (n - s - m) ≤ p ∧ p < n - s
      · rw [if_pos c2] at this; exact .inr (.inr (.inl ⟨by omega, c2.2, this⟩))
      · rw [if_neg c2] at this
        by_cases c3 : p < s
        · exact .inl ⟨c3, this⟩
        · exact .inr (.inr (.inr ⟨by omega, this⟩))
  refine ⟨by omega, by omega, by omega, by omega, hrr, fun i j h1 h2 h3 => ?_, fun i j h1 h2 h3 => ?_, fun i j h1 h2 h3 => ?_, fun i j h1 h2 h3 => ?_, fun p q h1 h2 h3 h4 => ?_⟩
  · rcases at_ i with ⟨a1, a2⟩ | ⟨a1, a2, a3⟩ | ⟨a1, a2, a3⟩ | ⟨a1, a2⟩ <;> try omega
    rcases at_ j with ⟨b1, b2⟩ | ⟨b1, b2, b3⟩ | ⟨b1, b2, b3⟩ | ⟨b1, b2⟩ <;> try omega
    rw [a2, b2]; exact hL i j h1 h2 (by omega)
  · rcases at_ i with ⟨a1, a2⟩ | ⟨a1, a2, a3⟩ | ⟨a1, a2, a3⟩ | ⟨a1, a2⟩ <;> try omega
    rcases at_ j with ⟨b1, b2⟩ | ⟨b1, b2, b3⟩ | ⟨b1, b2, b3⟩ | ⟨b1, b2⟩ <;> try omega
    rw [a3, b3]; exact hR _ _ (by omega) (by omega) (by omega)
  · rcases at_ i with ⟨a1, a2⟩ | ⟨a1, a2, a3⟩ | ⟨a1, a2, a3⟩ | ⟨a1, a2⟩ <;> try omega
    rcases at_ j with ⟨b1, b2⟩ | ⟨b1, b2, b3⟩ | ⟨b1, b2, b3⟩ | ⟨b1, b2⟩ <;> try omega
    rw [a3, b3]; exact hL _ _ (by omega) (by omega) (by omega)
  · rcases at_ i with ⟨a1, a2⟩ | ⟨a1, a2, a3⟩ | ⟨a1, a2, a3⟩ | ⟨a1, a2⟩ <;> try omega
    rcases at_ j with ⟨b1, b2⟩ | ⟨b1, b2, b3⟩ | ⟨b1, b2, b3⟩ | ⟨b1, b2⟩ <;> try omega
    rw [a2, b2]; exact hR i j (by omega) h2 h3
  · rcases at_ p with ⟨a1, a2⟩ | ⟨a1, a2, a3⟩ | ⟨a1, a2, a3⟩ | ⟨a1, a2⟩ <;> try omega
    · rcases at_ q with ⟨b1, b2⟩ | ⟨b1, b2, b3⟩ | ⟨b1, b2, b3⟩ | ⟨b1, b2⟩ <;> try omega
      · rw [a2, b3]; exact srt_le hL h1 (by omega) (by omega)
      · rw [a2, b2]; exact hlo p q h1 a1 b1 h4
    · rcases at_ q with ⟨b1, b2⟩ | ⟨b1, b2, b3⟩ | ⟨b1, b2, b3⟩ | ⟨b1, b2⟩ <;> try omega
      · rw [a3, b3]; exact Int.le_of_lt (hlt _ _ (by omega) (by omega) (by omega) (by omega))
      · rw [a3, b2]; exact srt_le hR (by omega) (by omega) h4
/-- The two halves are merged each by itself. -/
theorem joined {a b mid : Nat} {d d1 d2 d3 : Array Vb} (hab : a ≤ mid) (hmb : mid ≤ b) (h1 : Rr a b d d1) (hx : ∀ p q, a ≤ p → p < mid → mid ≤ q → q < b → kv d1[p]! ≤ kv d1[q]!) (h2 : Merged a mid d1 d2) (h3 : Merged mid b d2 d3) : Merged a b d d3 := by
  refine ⟨(h1.trans (h2.1.mono (Nat.le_refl _) hmb)).trans (h3.1.mono hab (Nat.le_refl _)), fun i j g1 g2 g3 => ?_⟩
  rcases Nat.lt_or_ge i mid with e1 | e1
  · rw [h3.1.out i (.inl e1)]
    rcases Nat.lt_or_ge j mid with e2 | e2
    · rw [h3.1.out j (.inl e2)]; exact h2.2 i j g1 g2 e2
    · obtain ⟨j', k1, k2, k3⟩ := h3.1.org j e2 g3
      obtain ⟨i', l1, l2, l3⟩ := h2.1.org i g1 e1
      rw [k3, h2.1.out j' (.inr k1), l3]
      exact hx i' j' l1 l2 k1 k2
  · exact h3.2 i j e1 g2 g3
theorem merged_self {a s b : Nat} {d : Array Vb} (h1 : Srt a s d) (h2 : Srt s b d) (h : s ≤ a ∨ b ≤ s) : Merged a b d d := by
  refine ⟨Rr.refl _ _ _, ?_⟩
  rcases h with h | h
  · exact srt_mono h2 h (Nat.le_refl _)
  · exact srt_mono h1 (Nat.le_refl _) h
/-! ### blocks -/
/-- From lo to hi each block of s is sorted. -/
def Blk (s lo hi : Nat) (d : Array Vb) : Prop := ∀ i j, lo ≤ i → i < j → j < hi → i / s = j / s → kv d[i]! ≤ kv d[j]!
theorem blk_srt {s lo hi t a b : Nat} {d : Array Vb} (h : Blk s lo hi d) (ha : a = t * s) (hab : b ≤ a + s) (h1 : lo ≤ a) (h2 : b ≤ hi) : Srt a b d := fun i j g1 g2 g3 => by
  have hs : 0 < s := by omega
  refine h i j (by omega) g2 (by omega) ?_
  have e1 : i / s = t := Nat.div_eq_of_lt_le (by omega) (by rw [Nat.add_mul]; omega)
  have e2 : j / s = t := Nat.div_eq_of_lt_le (by omega) (by rw [Nat.add_mul]; omega)
  rw [e1, e2]
/-- A block more is sorted. -/
theorem blk_more {s t a b n : Nat} {d d' : Array Vb} (hs : 0 < s) (h : Blk s 0 a d) (ha : a = t * s) (hab : a ≤ b) (hm : Rr a b d d') (hst : Srt a b d') : Blk s 0 b d' := fun i j g1 g2 g3 g4 => by
  rcases Nat.lt_or_ge j a with e1 | e1
  · rw [hm.out i (by omega), hm.out j (by omega)]; exact h i j g1 g2 e1 g4
  · rcases Nat.lt_or_ge i a with e2 | e2
    · exfalso
      have f1 : i / s < t := (Nat.div_lt_iff_lt_mul hs).2 (by omega)
      have f2 : t ≤ j / s := (Nat.le_div_iff_mul_le hs).2 (by omega)
      omega
    · exact hst i j e2 g2 g3
theorem blk_behind {s a b n : Nat} {d d' : Array Vb} (hab : a ≤ b) (h : Blk s a n d) (hm : Rr a b d d') : Blk s b n d' := fun i j g1 g2 g3 g4 => by
  rw [hm.out i (by omega), hm.out j (by omega)]
  exact h i j (by omega) g2 g3 g4
theorem blk_all {s n : Nat} {d : Array Vb} (h : Blk s 0 n d) (hn : n ≤ s) : Srt 0 n d := fun i j g1 g2 g3 => h i j g1 g2 g3 (by rw [Nat.div_eq_of_lt (by omega), Nat.div_eq_of_lt (by omega)])
theorem blk_none (s lo hi : Nat) (d : Array Vb) (h : hi ≤ lo + 1) : Blk s lo hi d := fun i j g1 g2 g3 => by omega
theorem srt_of {a b : Nat} {d : Array Vb} (h : SortedIn ltV a b d) : Srt a b d := fun i j h1 h2 h3 => by
  have := h i j h1 h2 h3
  exact Int.not_lt.1 (of_decide_eq_false this)
theorem of_srt {a b : Nat} {d : Array Vb} (h : Srt a b d) : SortedIn ltV a b d := fun i j h1 h2 h3 => by
  have := h i j h1 h2 h3
  exact decide_eq_false (by omega)
end Go.Proofs.Ytoljnbbhoeloeaa
