/- PLAIN: binomial numbers by sums, the weights of Fisher's test, and what follows of them. No program in sight. -/
namespace Go.Proofs.Ytoljnbbhoeloeaa
def ch : Nat → Nat → Nat
  | _, 0 => 1
  | 0, _ + 1 => 0
  | n + 1, k + 1 => ch n k + ch n (k + 1)
@[simp] theorem ch_zero (n : Nat) : ch n 0 = 1 := by cases n <;> rfl
theorem ch_succ (n k : Nat) : ch (n + 1) (k + 1) = ch n k + ch n (k + 1) := rfl
theorem ch_gt : ∀ (n k : Nat), n < k → ch n k = 0
  | 0, _ + 1, _ => rfl
  | n + 1, k + 1, h => by rw [ch_succ, ch_gt n k (by omega), ch_gt n (k + 1) (by omega)]
@[simp] theorem ch_self : ∀ n, ch n n = 1
  | 0 => rfl
  | n + 1 => by rw [ch_succ, ch_self n, ch_gt n (n + 1) (by omega)]
theorem ch_pos : ∀ (n k : Nat), k ≤ n → 0 < ch n k
  | _, 0, _ => by simp
  | n + 1, k + 1, h => by
    rw [ch_succ]
    have := ch_pos n k (by omega)
    omega
theorem ch_le : ∀ (n k : Nat), ch n k ≤ 2 ^ n
  | n, 0 => by rw [ch_zero]; exact Nat.one_le_two_pow
  | 0, _ + 1 => by simp [ch]
  | n + 1, k + 1 => by
    rw [ch_succ, Nat.pow_succ]
    have h1 := ch_le n k
    have h2 := ch_le n (k + 1)
    omega
theorem ch_symm : ∀ (n k : Nat), k ≤ n → ch n (n - k) = ch n k
  | n, 0, _ => by simp
  | n + 1, k + 1, h => by
    rcases Nat.lt_or_ge k n with hk | hk
    · have e : n + 1 - (k + 1) = (n - k - 1) + 1 := by omega
      rw [e, ch_succ, ch_succ]
      have h1 := ch_symm n k (by omega)
      have h2 := ch_symm n (k + 1) (by omega)
      have e2 : n - (k + 1) = n - k - 1 := by omega
      rw [e2] at h2
      rw [h2, show n - k - 1 + 1 = n - k from by omega, h1]
      omega
    · obtain rfl : k = n := by omega
      simp

/-- The sum of f 0, .., f (n - 1). -/
def sm (f : Nat → Nat) : Nat → Nat
  | 0 => 0
  | n + 1 => sm f n + f n
theorem sm_congr {f g : Nat → Nat} : ∀ n, (∀ i, i < n → f i = g i) → sm f n = sm g n
  | 0, _ => rfl
  | n + 1, h => by rw [sm, sm, sm_congr n (fun i hi => h i (by omega)), h n (by omega)]
theorem sm_le {f g : Nat → Nat} : ∀ n, (∀ i, i < n → f i ≤ g i) → sm f n ≤ sm g n
  | 0, _ => Nat.le_refl _
  | n + 1, h => Nat.add_le_add (sm_le n (fun i hi => h i (by omega))) (h n (by omega))
theorem sm_mono (f : Nat → Nat) {a b : Nat} (h : a ≤ b) : sm f a ≤ sm f b := by
  induction b with
  | zero => obtain rfl : a = 0 := by omega
            exact Nat.le_refl _
  | succ b ih =>
    rcases Nat.lt_or_ge b a with h' | h'
    · obtain rfl : a = b + 1 := by omega
      exact Nat.le_refl _
    · have := ih h'
      simp only [sm]; omega
theorem sm_const_mul (f : Nat → Nat) (c : Nat) : ∀ n, sm (fun i => f i * c) n = sm f n * c
  | 0 => by simp [sm]
  | n + 1 => by rw [sm, sm, sm_const_mul f c n, Nat.add_mul]
theorem sm_zero {f : Nat → Nat} : ∀ n, (∀ i, i < n → f i = 0) → sm f n = 0
  | 0, _ => rfl
  | n + 1, h => by rw [sm, sm_zero n (fun i hi => h i (by omega)), h n (by omega)]
/-- Terms that are 0 from a on do not count. -/
theorem sm_ext (f : Nat → Nat) (a : Nat) : ∀ b, a ≤ b → (∀ i, a ≤ i → i < b → f i = 0) → sm f b = sm f a := by
  intro b
  induction b with
  | zero => intro h _; obtain rfl : a = 0 := by omega
            rfl
  | succ b ih =>
    intro h hz
    rcases Nat.lt_or_ge b a with h' | h'
    · obtain rfl : a = b + 1 := by omega
      rfl
    · rw [sm, ih h' (fun i h1 h2 => hz i h1 (by omega)), hz b h' (by omega)]; rfl
theorem sm_shift (f : Nat → Nat) : ∀ n, sm f (n + 1) = f 0 + sm (fun i => f (i + 1)) n
  | 0 => by simp [sm]
  | n + 1 => by rw [sm, sm_shift f n, sm]; omega
theorem sm_rev : ∀ (n : Nat) (f : Nat → Nat), sm f (n + 1) = sm (fun i => f (n - i)) (n + 1)
  | 0, f => by simp [sm]
  | n + 1, f => by
    rw [sm_shift f (n + 1), sm_rev n (fun i => f (i + 1))]
    have e : sm (fun i => f (n - i + 1)) (n + 1) = sm (fun i => f (n + 1 - i)) (n + 1) :=
      sm_congr _ (fun i hi => by show f (n - i + 1) = f (n + 1 - i); congr 1; omega)
    show f 0 + sm (fun i => f (n - i + 1)) (n + 1) = sm (fun i => f (n + 1 - i)) (n + 1) + f (n + 1 - (n + 1))
    rw [e, Nat.sub_self, Nat.add_comm]
theorem sm_add (f g : Nat → Nat) : ∀ n, sm (fun i => f i + g i) n = sm f n + sm g n
  | 0 => rfl
  | n + 1 => by rw [sm, sm, sm, sm_add f g n]; omega
theorem sm_ge_term (f : Nat → Nat) {i n : Nat} (h : i < n) : f i ≤ sm f n := by
  have := sm_mono f (show i + 1 ≤ n from h)
  simp only [sm] at this
  omega
theorem sm_ch : ∀ n, sm (ch n) (n + 1) = 2 ^ n
  | 0 => rfl
  | n + 1 => by
    rw [sm_shift, ch_zero]
    have e : sm (fun i => ch (n + 1) (i + 1)) (n + 1) = sm (ch n) (n + 1) + sm (fun i => ch n (i + 1)) (n + 1) := by
      rw [← sm_add]
      exact sm_congr _ (fun i _ => ch_succ n i)
    have e2 : sm (ch n) (n + 2) = 1 + sm (fun i => ch n (i + 1)) (n + 1) := by rw [sm_shift, ch_zero]
    have e3 : sm (ch n) (n + 2) = sm (ch n) (n + 1) := by rw [sm, ch_gt n (n + 1) (by omega)]; rfl
    have ih := sm_ch n
    rw [e, Nat.pow_succ]
    omega

/-- The weight of k: the number of ways to choose k of m things and r - k of o things. -/
def wgt (m o r k : Nat) : Nat := if k ≤ r then ch m k * ch o (r - k) else 0
theorem wgt_of_le {m o r k : Nat} (h : k ≤ r) : wgt m o r k = ch m k * ch o (r - k) := if_pos h
theorem wgt_high {m o r k : Nat} (h : m < k ∨ r < k) : wgt m o r k = 0 := by
  unfold wgt
  split
  · rw [ch_gt m k (by omega)]; simp
  · rfl
theorem wgt_low {m o r k : Nat} (h : k + o < r) : wgt m o r k = 0 := by
  rw [wgt_of_le (by omega), ch_gt o (r - k) (by omega)]; simp
theorem wgt_pos {m o r k : Nat} (h1 : k ≤ m) (h2 : k ≤ r) (h3 : r ≤ k + o) : 0 < wgt m o r k := by
  rw [wgt_of_le h2]
  exact Nat.mul_pos (ch_pos _ _ h1) (ch_pos _ _ (by omega))
theorem wgt_le (m o r k : Nat) : wgt m o r k ≤ ch m k * 2 ^ o := by
  unfold wgt
  split
  · exact Nat.mul_le_mul_left _ (ch_le _ _)
  · exact Nat.zero_le _
theorem wgt_sum_le (m o r n : Nat) (hn : n ≤ m + 1) : sm (wgt m o r) n ≤ 2 ^ (m + o) := by
  have h1 : sm (wgt m o r) n ≤ sm (wgt m o r) (m + 1) := sm_mono _ hn
  have h2 : sm (wgt m o r) (m + 1) ≤ sm (fun k => ch m k * 2 ^ o) (m + 1) := sm_le _ (fun k _ => wgt_le m o r k)
  rw [sm_const_mul, sm_ch, ← Nat.pow_add] at h2
  exact Nat.le_trans h1 h2
/-- The weights that are at most t. -/
def low (m o r t k : Nat) : Nat := if wgt m o r k ≤ t then wgt m o r k else 0
theorem low_le (m o r t k : Nat) : low m o r t k ≤ wgt m o r k := by unfold low; split <;> omega
def fNum (m o r x : Nat) : Nat := sm (low m o r (wgt m o r x)) (m + 1)
def fDen (m o r : Nat) : Nat := sm (wgt m o r) (m + 1)
theorem fNum_le (m o r x : Nat) : fNum m o r x ≤ fDen m o r := sm_le _ (fun _ _ => low_le _ _ _ _ _)
theorem fDen_le (m o r : Nat) : fDen m o r ≤ 2 ^ (m + o) := wgt_sum_le m o r _ (Nat.le_refl _)
theorem fNum_pos {m o r x : Nat} (h1 : x ≤ m) (h2 : x ≤ r) (h3 : r ≤ x + o) : 0 < fNum m o r x := by
  have h := sm_ge_term (low m o r (wgt m o r x)) (show x < m + 1 by omega)
  have hp := wgt_pos h1 h2 h3
  have e : low m o r (wgt m o r x) x = wgt m o r x := if_pos (Nat.le_refl _)
  rw [e] at h
  exact Nat.lt_of_lt_of_le hp h

/-! ### the symmetries -/
theorem wgt_swap {m o r k : Nat} (h : k ≤ r) : wgt o m r (r - k) = wgt m o r k := by
  rw [wgt_of_le h, wgt_of_le (by omega), Nat.mul_comm, show r - (r - k) = k from by omega]
theorem sm_swap (m o r : Nat) (g : Nat → Nat) (g0 : g 0 = 0) : sm (fun k => g (wgt o m r k)) (o + 1) = sm (fun k => g (wgt m o r k)) (m + 1) := by
  have e : ∀ (m o : Nat), sm (fun k => g (wgt m o r k)) (m + 1) = sm (fun k => g (wgt m o r k)) (r + 1) := by
    intro m o
    rcases Nat.le_total m r with h | h
    · exact (sm_ext _ (m + 1) (r + 1) (by omega) (fun i h1 _ => by show g _ = 0; rw [wgt_high (.inl (by omega)), g0])).symm
    · exact sm_ext _ (r + 1) (m + 1) (by omega) (fun i h1 _ => by show g _ = 0; rw [wgt_high (.inr (by omega)), g0])
  rw [e o m, e m o, sm_rev r]
  exact sm_congr _ (fun i hi => by show g (wgt o m r (r - i)) = g (wgt m o r i); rw [wgt_swap (by omega)])
theorem fDen_swap (m o r : Nat) : fDen o m r = fDen m o r := sm_swap m o r id rfl
theorem fNum_swap {m o r x : Nat} (h : x ≤ r) : fNum o m r (r - x) = fNum m o r x := by
  unfold fNum
  rw [wgt_swap h]
  exact sm_swap m o r (fun w => if w ≤ wgt m o r x then w else 0) (by simp)
theorem wgt_turn {m o r k : Nat} (h : k ≤ m) (hr : r ≤ m + o) : wgt m o (m + o - r) (m - k) = wgt m o r k := by
  rcases Nat.lt_or_ge r k with h1 | h1
  · rw [wgt_high (k := k) (.inr h1)]
    exact wgt_low (by omega)
  · rcases Nat.lt_or_ge (k + o) r with h2 | h2
    · rw [wgt_low (k := k) h2]
      exact wgt_high (.inr (by omega))
    · rw [wgt_of_le h1, wgt_of_le (by omega), ch_symm m k h, show m + o - r - (m - k) = o - (r - k) from by omega, ch_symm o (r - k) (by omega)]
theorem sm_turn {m o r : Nat} (hr : r ≤ m + o) (g : Nat → Nat) : sm (fun k => g (wgt m o (m + o - r) k)) (m + 1) = sm (fun k => g (wgt m o r k)) (m + 1) := by
  rw [sm_rev m]
  exact sm_congr _ (fun i hi => by show g (wgt m o (m + o - r) (m - i)) = g (wgt m o r i); rw [wgt_turn (by omega) hr])
theorem fDen_turn {m o r : Nat} (hr : r ≤ m + o) : fDen m o (m + o - r) = fDen m o r := sm_turn hr id
theorem fNum_turn {m o r x : Nat} (hr : r ≤ m + o) (h : x ≤ m) : fNum m o (m + o - r) (m - x) = fNum m o r x := by
  unfold fNum
  rw [wgt_turn h hr]
  exact sm_turn hr (fun w => if w ≤ wgt m o r x then w else 0)

/-! ### when the fraction is 1 -/
theorem fNum_all {m o r x : Nat} (h : ∀ k, k ≤ m → wgt m o r k ≤ wgt m o r x) : fNum m o r x = fDen m o r :=
  sm_congr _ (fun k hk => if_pos (h k (by omega)))
theorem one_of_single {m o r x : Nat} (h : ∀ k, k ≤ m → k ≠ x → wgt m o r k = 0) : fNum m o r x = fDen m o r :=
  fNum_all (fun k hk => by
    by_cases e : k = x
    · subst e; exact Nat.le_refl _
    · rw [h k hk e]; exact Nat.zero_le _)
theorem one_sums {m o r x : Nat} (hx1 : x ≤ m) (hx2 : x ≤ r) (hx3 : r ≤ x + o) (h : r = 0 ∨ r = m + o ∨ m = 0 ∨ o = 0) : fNum m o r x = fDen m o r := by
  refine one_of_single (fun k hk hne => ?_)
  rcases Nat.lt_or_ge r k with h1 | h1
  · exact wgt_high (.inr h1)
  · exact wgt_low (by omega)

/-- Binomials rise to the middle and fall behind it (in a product form): (a, b) with a + 2 ≤ b weighs at most (a + 1, b - 1). -/
theorem ch_conc : ∀ (n a b : Nat), a ≤ b → ch n a * ch n (b + 1 + 1) ≤ ch n (a + 1) * ch n (b + 1) := by
  intro n
  induction n with
  | zero => intro a b _; rw [ch_gt 0 (b + 1 + 1) (by omega)]; simp
  | succ n ih =>
    intro a b hab
    cases a with
    | zero =>
      rw [ch_zero, ch_succ n (b + 1), ch_succ n 0, ch_zero, ch_succ n b, Nat.one_mul]
      have h1 := ih 0 b (by omega)
      rw [ch_zero, Nat.one_mul] at h1
      have : (1 + ch n (0 + 1)) * (ch n b + ch n (b + 1)) = ch n b + ch n (b + 1) + (ch n (0 + 1) * ch n b + ch n (0 + 1) * ch n (b + 1)) := by
        rw [Nat.add_mul, Nat.one_mul, Nat.mul_add]
      rw [this]
      omega
    | succ a =>
      obtain ⟨c, rfl⟩ : ∃ c, b = c + 1 := ⟨b - 1, by omega⟩
      rw [ch_succ n a, ch_succ n (c + 1 + 1), ch_succ n (a + 1), ch_succ n (c + 1)]
      -- x0 = ch a, x1 = ch (a+1), x2 = ch (a+2), y1 = ch (c+1), y2 = ch (c+2), y3 = ch (c+3)
      have h01 := ih a c (by omega)
      have h12 := ih (a + 1) (c + 1) (by omega)
      have h02 : ch n a * ch n (c + 1 + 1 + 1) ≤ ch n (a + 1 + 1) * ch n (c + 1) := by
        have g1 := ih a (c + 1) (by omega)
        rcases Nat.lt_or_ge a c with hac | hac
        · have g2 := ih (a + 1) c (by omega)
          exact Nat.le_trans g1 g2
        · obtain rfl : a = c := by omega
          exact Nat.le_trans g1 (by rw [Nat.mul_comm]; exact Nat.le_refl _)
      simp only [Nat.add_mul, Nat.mul_add]
      omega
theorem ch_mid (n x : Nat) : ∀ j, j ≤ x → ch n (x - j) * ch n (x + j) ≤ ch n x * ch n x := by
  intro j
  induction j with
  | zero => intro _; exact Nat.le_refl _
  | succ j ih =>
    intro h
    refine Nat.le_trans ?_ (ih (by omega))
    rcases Nat.lt_or_ge j 1 with h0 | h0
    · obtain rfl : j = 0 := by omega
      obtain ⟨y, rfl⟩ : ∃ y, x = y + 1 := ⟨x - 1, by omega⟩
      simpa using ch_conc n y y (Nat.le_refl _)
    · have e := ch_conc n (x - (j + 1)) (x + j - 1) (by omega)
      rw [show x + j - 1 + 1 + 1 = x + (j + 1) from by omega, show x + j - 1 + 1 = x + j from by omega, show x - (j + 1) + 1 = x - j from by omega] at e
      exact e
theorem one_same {m x : Nat} : fNum m m (x + x) x = fDen m m (x + x) := by
  refine fNum_all (fun k hk => ?_)
  rcases Nat.lt_or_ge (x + x) k with h1 | h1
  · rw [wgt_high (.inr h1)]; exact Nat.zero_le _
  · rw [wgt_of_le h1, wgt_of_le (by omega), show x + x - x = x from by omega]
    rcases Nat.le_total k x with h2 | h2
    · have := ch_mid m x (x - k) (by omega)
      rw [show x - (x - k) = k from by omega, show x + (x - k) = x + x - k from by omega] at this
      exact this
    · have := ch_mid m x (k - x) (by omega)
      rw [show x - (k - x) = x + x - k from by omega, show x + (k - x) = k from by omega, Nat.mul_comm] at this
      exact this
end Go.Proofs.Ytoljnbbhoeloeaa
