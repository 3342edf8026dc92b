/- PLAIN LAW: fractions. -/
import Derived.Test.YtimblabaeclhpaaGreatBase
import Derived.Deep.QuietTactic
import Derived.BigQuiet
import Derived.Outline
import Derived.Deep.DeepCutAuto
import Derived.Deep.RegionHeld3
namespace Go.Proofs.YtimblabaeclhpaaGreat
/-- A fraction, as the program has it. -/
structure Fr where
  n : Int
  d : Int
deriving DecidableEq
/-- n / d in lowest terms. -/
def frR (n d : Int) : Fr := ⟨n / (Int.gcd n d : Int), d / (Int.gcd n d : Int)⟩
theorem gcd_pos {n d : Int} (h : 0 < d) : 0 < (Int.gcd n d : Int) := by
  have : 0 < Int.gcd n d := Int.gcd_pos_of_ne_zero_right n (by omega)
  omega
theorem frR_mul {n d : Int} (_h : 0 < d) : (frR n d).n * (Int.gcd n d : Int) = n ∧ (frR n d).d * (Int.gcd n d : Int) = d :=
  ⟨Int.ediv_mul_cancel (Int.gcd_dvd_left n d), Int.ediv_mul_cancel (Int.gcd_dvd_right n d)⟩
theorem frR_pos {n d : Int} (h : 0 < d) : 0 < (frR n d).d := by
  have h1 := (frR_mul (n := n) h).2
  have h2 := gcd_pos (n := n) h
  rcases Int.lt_or_le 0 (frR n d).d with h3 | h3
  · exact h3
  · have := Int.mul_nonpos_of_nonpos_of_nonneg h3 (Int.le_of_lt h2)
    omega
theorem frR_le {n d : Int} (h : 0 < d) : (frR n d).d ≤ d := by
  have h1 := (frR_mul (n := n) h).2
  have h2 := gcd_pos (n := n) h
  have h3 := frR_pos (n := n) h
  have : (frR n d).d * 1 ≤ (frR n d).d * (Int.gcd n d : Int) := Int.mul_le_mul_of_nonneg_left (by omega) (by omega)
  omega
theorem frR_cross {n d : Int} (h : 0 < d) : (frR n d).n * d = n * (frR n d).d := by
  obtain ⟨h1, h2⟩ := frR_mul (n := n) h
  have e : (frR n d).n * ((frR n d).d * (Int.gcd n d : Int)) = (frR n d).n * (Int.gcd n d : Int) * (frR n d).d := by
    rw [Int.mul_comm (frR n d).d, ← Int.mul_assoc]
  rw [h2, h1] at e
  exact e
theorem frR_abs {n d : Int} (h : 0 < d) : (frR n d).n.natAbs ≤ n.natAbs := by
  have h1 := (frR_mul (n := n) h).1
  have h2 : 0 < Int.gcd n d := Int.gcd_pos_of_ne_zero_right n (by omega)
  have e : n.natAbs = (frR n d).n.natAbs * Int.gcd n d := by
    have := congrArg Int.natAbs h1
    rw [Int.natAbs_mul] at this
    simpa using this.symm
  have h4 := Nat.mul_le_mul_left (frR n d).n.natAbs h2
  omega
theorem frR_gcd {n d : Int} (h : 0 < d) : Int.gcd (frR n d).n (frR n d).d = 1 := by
  have h2 : 0 < Int.gcd n d := Int.gcd_pos_of_ne_zero_right n (by omega)
  exact Int.gcd_ediv_gcd_ediv_gcd h2
theorem int_dvd {a b c : Int} (h : a ∣ b * c) (h1 : Int.gcd a b = 1) : a ∣ c := by
  have h2 := Int.natAbs_dvd_natAbs.2 h
  rw [Int.natAbs_mul] at h2
  exact Int.natAbs_dvd_natAbs.1 (Nat.Coprime.dvd_of_dvd_mul_left h1 h2)
/-- Two fractions in lowest terms that are equal are the same. -/
theorem low_eq {a b c d : Int} (hb : 0 < b) (hd : 0 < d) (h1 : Int.gcd a b = 1) (h2 : Int.gcd c d = 1) (h : a * d = c * b) : a = c ∧ b = d := by
  have e1 : b ∣ d := by
    have : b ∣ a * d := ⟨c, by rw [h, Int.mul_comm]⟩
    exact int_dvd this (by rw [Int.gcd_comm]; exact h1)
  have e2 : d ∣ b := by
    have : d ∣ c * b := ⟨a, by rw [← h, Int.mul_comm]⟩
    exact int_dvd this (by rw [Int.gcd_comm]; exact h2)
  have e : b = d := Int.le_antisymm (Int.le_of_dvd hd e1) (Int.le_of_dvd hb e2)
  subst e
  exact ⟨Int.eq_of_mul_eq_mul_right (by omega) h, rfl⟩
theorem frR_eq {a b c d : Int} (hb : 0 < b) (hd : 0 < d) (h : a * d = c * b) : frR a b = frR c d := by
  have p1 := frR_pos (n := a) hb; have p2 := frR_pos (n := c) hd
  have c1 := frR_cross (n := a) hb; have c2 := frR_cross (n := c) hd
  have key : (frR a b).n * (frR c d).d = (frR c d).n * (frR a b).d := by
    have e : (frR a b).n * (frR c d).d * (b * d) = (frR c d).n * (frR a b).d * (b * d) := by
      calc (frR a b).n * (frR c d).d * (b * d) = ((frR a b).n * b) * ((frR c d).d * d) := by ac_rfl
        _ = (a * (frR a b).d) * ((frR c d).d * d) := by rw [c1]
        _ = (a * d) * ((frR a b).d * (frR c d).d) := by ac_rfl
        _ = (c * b) * ((frR a b).d * (frR c d).d) := by rw [h]
        _ = (c * (frR c d).d) * ((frR a b).d * b) := by ac_rfl
        _ = ((frR c d).n * d) * ((frR a b).d * b) := by rw [c2]
        _ = (frR c d).n * (frR a b).d * (b * d) := by ac_rfl
    exact Int.eq_of_mul_eq_mul_right (by have := Int.mul_pos hb hd; omega) e
  have := low_eq p1 p2 (frR_gcd hb) (frR_gcd hd) key
  cases hx : frR a b; cases hy : frR c d
  rw [hx, hy] at this
  simp only [] at this
  rw [this.1, this.2]
/-- A fraction in lowest terms stays. -/
theorem frR_id {n d : Int} (h : Int.gcd n d = 1) : frR n d = ⟨n, d⟩ := by
  unfold frR
  rw [h]
  simp
def Fr.add (a b : Fr) : Fr := frR (a.n * b.d + b.n * a.d) (a.d * b.d)
def Fr.sub (a b : Fr) : Fr := frR (a.n * b.d + -b.n * a.d) (a.d * b.d)
def Fr.lt (a b : Fr) : Prop := a.n * b.d < b.n * a.d
instance (a b : Fr) : Decidable (Fr.lt a b) := inferInstanceAs (Decidable (_ < _))
def whF (n : Int) : Fr := ⟨n, 1⟩
/-- n times a fraction, divided by m. -/
def Fr.times (a : Fr) (n m : Int) : Fr := frR (a.n * n) (a.d * m)
/-- A valid fraction. -/
structure Fr.ok (f : Fr) : Prop where
  low : 1 ≤ f.d
  high : f.d ≤ 32768
  lo : -2147483647 ≤ f.n
  hi : f.n ≤ 2147483647
  gcd : Int.gcd f.n f.d = 1
theorem frR_scale {a b k : Int} (hb : 0 < b) (hk : 0 < k) : frR (a * k) (b * k) = frR a b := frR_eq (Int.mul_pos hb hk) hb (by ac_rfl)
theorem whF_eq (n : Int) : whF n = frR n 1 := by
  rw [frR_id (by simp)]
  rfl
theorem add_frR {a b c d : Int} (hb : 0 < b) (hd : 0 < d) : (frR a b).add (frR c d) = frR (a * d + c * b) (b * d) := by
  have p1 := frR_pos (n := a) hb; have p2 := frR_pos (n := c) hd
  have c1 := frR_cross (n := a) hb; have c2 := frR_cross (n := c) hd
  generalize frR a b = x at *
  generalize frR c d = y at *
  unfold Fr.add
  refine frR_eq (Int.mul_pos p1 p2) (Int.mul_pos hb hd) ?_
  rw [Int.add_mul, Int.add_mul]
  congr 1
  · calc x.n * y.d * (b * d) = (x.n * b) * (y.d * d) := by ac_rfl
      _ = (a * x.d) * (y.d * d) := by rw [c1]
      _ = a * d * (x.d * y.d) := by ac_rfl
  · calc y.n * x.d * (b * d) = (y.n * d) * (x.d * b) := by ac_rfl
      _ = (c * y.d) * (x.d * b) := by rw [c2]
      _ = c * b * (x.d * y.d) := by ac_rfl
def Fr.neg (a : Fr) : Fr := ⟨-a.n, a.d⟩
theorem neg_frR {a b : Int} : (frR a b).neg = frR (-a) b := by
  have e : Int.gcd (-a) b = Int.gcd a b := by unfold Int.gcd; rw [Int.natAbs_neg]
  unfold Fr.neg frR
  rw [e, Int.neg_ediv_of_dvd (Int.gcd_dvd_left a b)]
theorem sub_add (a b : Fr) : a.sub b = a.add b.neg := rfl
theorem sub_frR {a b c d : Int} (hb : 0 < b) (hd : 0 < d) : (frR a b).sub (frR c d) = frR (a * d + -c * b) (b * d) := by rw [sub_add, neg_frR, add_frR hb hd]
theorem times_frR {a b n m : Int} (hb : 0 < b) (hm : 0 < m) : (frR a b).times n m = frR (a * n) (b * m) := by
  have p1 := frR_pos (n := a) hb
  have c1 := frR_cross (n := a) hb
  generalize frR a b = x at *
  unfold Fr.times
  refine frR_eq (Int.mul_pos p1 hm) (Int.mul_pos hb hm) ?_
  calc x.n * n * (b * m) = (x.n * b) * (n * m) := by ac_rfl
    _ = (a * x.d) * (n * m) := by rw [c1]
    _ = a * n * (x.d * m) := by ac_rfl
theorem lt_frR {a b c d : Int} (hb : 0 < b) (hd : 0 < d) : (frR a b).lt (frR c d) ↔ a * d < c * b := by
  have p1 := frR_pos (n := a) hb; have p2 := frR_pos (n := c) hd
  have c1 := frR_cross (n := a) hb; have c2 := frR_cross (n := c) hd
  generalize frR a b = x at *
  generalize frR c d = y at *
  unfold Fr.lt
  have hbd := Int.mul_pos hb hd
  have hxy := Int.mul_pos p1 p2
  have e1 : x.n * y.d * (b * d) = a * d * (x.d * y.d) := by
    calc x.n * y.d * (b * d) = (x.n * b) * (y.d * d) := by ac_rfl
      _ = (a * x.d) * (y.d * d) := by rw [c1]
      _ = a * d * (x.d * y.d) := by ac_rfl
  have e2 : y.n * x.d * (b * d) = c * b * (x.d * y.d) := by
    calc y.n * x.d * (b * d) = (y.n * d) * (x.d * b) := by ac_rfl
      _ = (c * y.d) * (x.d * b) := by rw [c2]
      _ = c * b * (x.d * y.d) := by ac_rfl
  constructor
  · intro h
    have := Int.mul_lt_mul_of_pos_right h hbd
    rw [e1, e2] at this
    exact Int.lt_of_mul_lt_mul_right this (Int.le_of_lt hxy)
  · intro h
    have := Int.mul_lt_mul_of_pos_right h hxy
    rw [← e1, ← e2] at this
    exact Int.lt_of_mul_lt_mul_right this (Int.le_of_lt hbd)
/-- The lesser one. -/
def minF (a b : Fr) : Fr := if b.lt a then b else a
/-- The least whole number that is not below a fraction. -/
def ceilF (f : Fr) : Int := -((-f.n) / f.d)
theorem ceil_frR {a b : Int} (hb : 0 < b) : ceilF (frR a b) = -((-a) / b) := by
  obtain ⟨h1, h2⟩ := frR_mul (n := a) hb
  have hg := gcd_pos (n := a) hb
  unfold ceilF
  congr 1
  have : (-a) / b = (-(frR a b).n * (Int.gcd a b : Int)) / ((frR a b).d * (Int.gcd a b : Int)) := by
    rw [h2]
    congr 1
    rw [Int.neg_mul, h1]
  rw [this, Int.mul_ediv_mul_of_pos_left _ _ hg]
theorem ceil_whole (n : Int) {a b : Int} (hb : 0 < b) : ceilF ((whF n).add (frR a b)) = n + ceilF (frR a b) := by
  rw [whF_eq, add_frR (by omega) hb, ceil_frR (by omega), ceil_frR hb, Int.one_mul, Int.mul_one]
  have e : -(n * b + a) = -a + (-n) * b := by rw [Int.neg_mul]; omega
  rw [e, Int.add_mul_ediv_right _ _ (by omega)]
  omega
end Go.Proofs.YtimblabaeclhpaaGreat

/- WALK: the numbers of the grid: gcd, fractions, sums. -/
namespace Go.Proofs.YtimblabaeclhpaaGreat
open Go.RowKit
theorem gcd_nat {a b : Int} (ha : 0 ≤ a) (hb : 0 ≤ b) : Int.gcd a b = Nat.gcd a.toNat b.toNat := by
  unfold Int.gcd
  congr 1 <;> omega
theorem gcd_negA (a b : Int) : Int.gcd (-a) b = Int.gcd a b := by unfold Int.gcd; rw [Int.natAbs_neg]
set_option maxRecDepth 100000 in
set_option maxHeartbeats 1000000 in
theorem gcdP_any (a b : Int) (h1 : -4611686018427387904 ≤ a) (h2 : a ≤ 4611686018427387904) (h3 : 0 ≤ b) (h4 : b ≤ 4611686018427387904) (w : World) :
    Calls Tryz.prog 76 #[.int .i64 a, .int .i64 b] w fun e w' => e = .returned (.int .i64 (Int.gcd a b : Int)) ∧ w = w' := by
  by_cases h0 : a < 0
  · have hG := gcd_nat (a := -a) (b := b) (by omega) h3
    rw [gcd_negA] at hG
    have HG := hid hG
    obtain ⟨x, hx⟩ : ∃ x : Nat, -a = x := ⟨(-a).toNat, by omega⟩
    obtain ⟨y, rfl⟩ : ∃ y : Nat, b = y := ⟨b.toNat, by omega⟩
    have hxl : x ≤ 4611686018427387904 := by omega
    have HX := hid hx
    clear hG hx
    go_enter Tryz.func76, Tryz.ntmps76
    go_upto_region 3 with (fail)
    go_wp2_with fail
    go_loopw [0, 1] (fun u v wr => ∃ p q : Nat, u = .int .i64 p ∧ v = .int .i64 q ∧ p ≤ 4611686018427387904 ∧ q ≤ 4611686018427387904 ∧ Nat.gcd p q = Int.gcd a y ∧ w = wr) (fun u _ _ => (intOf u).toNat)
    case atStart => exact ⟨x, y, by rw [HX.out], rfl, hxl, by omega, by rw [HG.out, HX.out]; rfl, rfl⟩
    case round =>
      obtain ⟨p, q, rfl, rfl, hp, hq, hg, rfl⟩ := hrel
      have Hg := hid hg; clear hg
      by_cases hp0 : 0 < p
      · have r1 : (1 : Int) ≤ p := by omega
        have r2 : (0 : Int) ≤ q := by omega
        have r3 : (0 : Int) < p := by omega
        go_wp2_with fail
        go_roundw
        case rel => exact ⟨q % p, p, by go_num, rfl, by have := Nat.mod_lt q hp0; omega, hp, by rw [← Hg.out, ← Nat.gcd_rec], by trivial⟩
        case measure => simp [intOf]; have := Nat.mod_lt q hp0; omega
      · obtain rfl : p = 0 := by omega
        go_wp2_with fail
        go_ret
        exact ⟨by rw [← Hg.out, Nat.gcd_zero_left]; rfl, rfl⟩
  · have hG := gcd_nat (a := a) (b := b) (by omega) h3
    have HG := hid hG
    obtain ⟨x, rfl⟩ : ∃ x : Nat, a = x := ⟨a.toNat, by omega⟩
    obtain ⟨y, rfl⟩ : ∃ y : Nat, b = y := ⟨b.toNat, by omega⟩
    clear hG
    go_enter Tryz.func76, Tryz.ntmps76
    go_upto_region 3 with (fail)
    go_wp2_with fail
    go_loopw [0, 1] (fun u v wr => ∃ p q : Nat, u = .int .i64 p ∧ v = .int .i64 q ∧ p ≤ 4611686018427387904 ∧ q ≤ 4611686018427387904 ∧ Nat.gcd p q = Int.gcd x y ∧ w = wr) (fun u _ _ => (intOf u).toNat)
    case atStart => exact ⟨x, y, rfl, rfl, by omega, by omega, by rw [HG.out]; rfl, rfl⟩
    case round =>
      obtain ⟨p, q, rfl, rfl, hp, hq, hg, rfl⟩ := hrel
      have Hg := hid hg; clear hg
      by_cases hp0 : 0 < p
      · have r1 : (1 : Int) ≤ p := by omega
        have r2 : (0 : Int) ≤ q := by omega
        have r3 : (0 : Int) < p := by omega
        go_wp2_with fail
        go_roundw
        case rel => exact ⟨q % p, p, by go_num, rfl, by have := Nat.mod_lt q hp0; omega, hp, by rw [← Hg.out, ← Nat.gcd_rec], by trivial⟩
        case measure => simp [intOf]; have := Nat.mod_lt q hp0; omega
      · obtain rfl : p = 0 := by omega
        go_wp2_with fail
        go_ret
        exact ⟨by rw [← Hg.out, Nat.gcd_zero_left]; rfl, rfl⟩
set_option maxRecDepth 100000 in
set_option maxHeartbeats 1000000 in
theorem fracP_any (n d : Int) (h1 : -4611686018427387904 ≤ n) (h2 : n ≤ 4611686018427387904) (h3 : 0 < d) (h4 : d ≤ 4611686018427387904) (w : World) :
    Calls Tryz.prog 60 #[.int .i64 n, .int .i64 d] w fun e w' => e = .returned (.agg #[.int .i64 (frR n d).n, .int .i64 (frR n d).d]) ∧ Below w.heap.size w w' := by
  have hg := gcd_pos (n := n) h3
  have e1 : n.tdiv (Int.gcd n d : Int) = (frR n d).n := Int.tdiv_eq_ediv_of_dvd (Int.gcd_dvd_left n d)
  have e2 : d.tdiv (Int.gcd n d : Int) = (frR n d).d := Int.tdiv_eq_ediv_of_dvd (Int.gcd_dvd_right n d)
  have hd := frR_pos (n := n) h3
  have hl := frR_le (n := n) h3
  have ha := frR_abs (n := n) h3
  have HG := hid (fun W : World => gcdP_any n d h1 h2 (by omega) h4 W)
  obtain ⟨w1, hw1⟩ : ∃ w1, w1 = w.alloc (.cells #[.int .i64 0, .int .i64 0] 42) := ⟨_, rfl⟩
  have hb1 : Below w.heap.size w w1 := by rw [hw1]; exact (Below.refl _ _).alloc (Nat.le_refl _) _
  have HW1 := hid hw1; have HB1 := hid hb1
  generalize frR n d = q at *
  generalize (Int.gcd n d : Int) = g at *
  obtain ⟨qn, qd⟩ := q
  simp only [] at e1 e2 hd hl ha ⊢
  clear hw1 hb1
  go_enter Tryz.func60, Tryz.ntmps60
  go_upto_region 2 with (first | (go_at_call 76; refine (HG.out _).mono ?_; rintro e w2 ⟨rfl, rfl⟩))
  have hg0 : g ≠ 0 := by omega
  have hg1 : 1 ≤ g := by omega
  go_region
  all_goals
    go_wp2_with fail
    exact bodyPost_ret (v := .agg #[.int .i64 qn, .int .i64 qd]) (by simp [results, Tryz.results60, go_sem]) rfl ⟨rfl, ((Below.refl _ _).alloc (Nat.le_refl _) _).drew⟩
theorem nw_blk {w : World} {o : Obj} {n : Nat} (hn : n = w.heap.size) : (w.alloc o).heap[n]? = some o := by subst hn; exact heap_alloc_new w o
theorem old_blk {w : World} {o x : Obj} {k : Nat} (h : w.heap[k]? = some x) : (w.alloc o).heap[k]? = some x := (Below.heap_alloc _ _ _ (lt_of_block h)).trans h
/-- A result's cells behind a call. -/
theorem res_two {W w2 : World} {b : Nat} {x y : Value} {T : TypeId} (h : Below W.heap.size W w2) (hb : W.heap[b]? = some (.cells #[x, y] T (0, 0))) : (w2.cell? ⟨b, 0, none⟩ = some x ∧ w2.cell? ⟨b, 1, none⟩ = some y) ∧ (w2.frozen? ⟨b, 0, none⟩ = false ∧ w2.frozen? ⟨b, 1, none⟩ = false) ∧ b < w2.heap.size := by
  have hlt := lt_of_block hb
  have h2 := (h.block _ hlt).trans hb
  have hlt2 := lt_of_block h2
  refine ⟨⟨?_, ?_⟩, ⟨?_, ?_⟩, hlt2⟩
  · simp [World.cell?, h2]
  · simp [World.cell?, h2]
  · simp [World.frozen?, h2]
  · simp [World.frozen?, h2]
/-- What is asked of two fractions whose sum is made. -/
structure SumOk (a b : Fr) : Prop where
  a0 : 0 < a.d
  b0 : 0 < b.d
  ad : a.d ≤ 1073741824
  bd : b.d ≤ 1073741824
  an : a.n.natAbs ≤ 1073741824
  bn : b.n.natAbs ≤ 1073741824
theorem mul_bd {x y : Int} (hx : x.natAbs ≤ 1073741824) (hy : y.natAbs ≤ 1073741824) : -1152921504606846976 ≤ x * y ∧ x * y ≤ 1152921504606846976 := by
  have h := Nat.mul_le_mul hx hy
  rw [← Int.natAbs_mul] at h
  omega
theorem SumOk.prods {a b : Fr} (h : SumOk a b) : ((-1152921504606846976 ≤ a.n * b.d ∧ a.n * b.d ≤ 1152921504606846976) ∧ -1152921504606846976 ≤ b.n * a.d ∧ b.n * a.d ≤ 1152921504606846976) ∧ 0 < a.d * b.d ∧ a.d * b.d ≤ 1152921504606846976 := by
  have h1 := h.a0; have h2 := h.b0; have h3 := h.ad; have h4 := h.bd
  exact ⟨⟨mul_bd h.an (by omega), mul_bd h.bn (by omega)⟩, Int.mul_pos h1 h2, (mul_bd (x := a.d) (y := b.d) (by omega) (by omega)).2⟩
theorem SumOk.swap {a b : Fr} (h : SumOk a b) : SumOk b a := ⟨h.b0, h.a0, h.bd, h.ad, h.bn, h.an⟩
set_option maxRecDepth 100000 in
set_option maxHeartbeats 1000000 in
theorem addP_any (a b : Fr) (h : SumOk a b) (w : World) :
    Calls Tryz.prog 38 #[.agg #[.int .i64 a.n, .int .i64 a.d], .agg #[.int .i64 b.n, .int .i64 b.d]] w fun e w' => e = .returned (.agg #[.int .i64 (a.add b).n, .int .i64 (a.add b).d]) ∧ Below w.heap.size w w' := by
  obtain ⟨⟨⟨p1, p2⟩, p3, p4⟩, p5, p6⟩ := h.prods
  have HF := hid (fun W : World => fracP_any (a.n * b.d + b.n * a.d) (a.d * b.d) (by omega) (by omega) p5 (by omega) W)
  have e : frR (a.n * b.d + b.n * a.d) (a.d * b.d) = a.add b := rfl
  rw [e] at HF
  generalize a.add b = q at HF ⊢
  clear e h
  obtain ⟨an, ad⟩ := a
  obtain ⟨bn, bd⟩ := b
  obtain ⟨qn, qd⟩ := q
  simp only [] at p1 p2 p3 p4 p5 p6 HF ⊢
  obtain ⟨x, hx⟩ : ∃ x, x = an * bd := ⟨_, rfl⟩
  obtain ⟨y, hy⟩ : ∃ x, x = bn * ad := ⟨_, rfl⟩
  obtain ⟨z, hz⟩ : ∃ x, x = ad * bd := ⟨_, rfl⟩
  rw [← hx, ← hy, ← hz] at HF
  rw [← hx] at p1 p2
  rw [← hy] at p3 p4
  rw [← hz] at p5 p6
  have x1 := hx.symm; have y1 := hy.symm; have z1 := hz.symm
  clear hx hy hz
  go_enter Tryz.func38, Tryz.ntmps38
  go_wp2_with (first | (go_at_call 60; refine (HF.out _).mono ?_; rintro e w2 ⟨rfl, hb2⟩; have HB2 := hid hb2; obtain ⟨⟨k1, k2⟩, ⟨k3, k4⟩, k5⟩ := res_two (b := w.heap.size + 1 + 1) hb2 (nw_blk (by simp)); clear hb2))
  have q1 := World.cell?_setCell_same _ _ (.int .i64 qn) k1
  exact bodyPost_ret (v := .agg #[.int .i64 qn, .int .i64 qd]) (by simp [results, Tryz.results38, go_sem, k2, q1]) rfl ⟨rfl, (((((((Below.refl _ _).alloc (Nat.le_refl _) _).alloc (by simp) _).alloc (by simp; omega) _).trans (HB2.out.mono (by simp; omega))).setCell (by simp; omega) _).setCell (by simp; omega) _)⟩
end Go.Proofs.YtimblabaeclhpaaGreat

/- WALK: the numbers of the grid: difference, multiple, comparison, floor and ceiling. -/
namespace Go.Proofs.YtimblabaeclhpaaGreat
open Go.RowKit
theorem Fr.neg_ok {a b : Fr} (h : SumOk a b) : SumOk a b.neg := ⟨h.a0, h.b0, h.ad, h.bd, h.an, by have := h.bn; show (-b.n).natAbs ≤ _; rw [Int.natAbs_neg]; exact this⟩
set_option maxRecDepth 100000 in
set_option maxHeartbeats 1000000 in
theorem subP_any (a b : Fr) (h : SumOk a b) (w : World) :
    Calls Tryz.prog 40 #[.agg #[.int .i64 a.n, .int .i64 a.d], .agg #[.int .i64 b.n, .int .i64 b.d]] w fun e w' => e = .returned (.agg #[.int .i64 (a.sub b).n, .int .i64 (a.sub b).d]) ∧ Below w.heap.size w w' := by
  have HF := hid (fun W : World => addP_any a b.neg (Fr.neg_ok h) W)
  rw [← sub_add] at HF
  have hbn := h.bn
  unfold Fr.neg at HF
  generalize a.sub b = q at HF ⊢
  clear h
  obtain ⟨an, ad⟩ := a
  obtain ⟨bn, bd⟩ := b
  obtain ⟨qn, qd⟩ := q
  simp only [] at HF hbn ⊢
  have h1 : -1073741824 ≤ bn := by omega
  have h2 : bn ≤ 1073741824 := by omega
  clear hbn
  go_enter Tryz.func40, Tryz.ntmps40
  go_wp2_with (first | (go_at_call 38; refine (HF.out _).mono ?_; rintro e w2 ⟨rfl, hb2⟩; have HB2 := hid hb2; obtain ⟨⟨k1, k2⟩, ⟨k3, k4⟩, k5⟩ := res_two (b := w.heap.size + 1 + 1) hb2 (nw_blk (by simp)); clear hb2))
  have q1 := World.cell?_setCell_same _ _ (.int .i64 qn) k1
  exact bodyPost_ret (v := .agg #[.int .i64 qn, .int .i64 qd]) (by simp [results, Tryz.results40, go_sem, k2, q1]) rfl ⟨rfl, (((((((Below.refl _ _).alloc (Nat.le_refl _) _).alloc (by simp) _).alloc (by simp; omega) _).trans (HB2.out.mono (by simp; omega))).setCell (by simp; omega) _).setCell (by simp; omega) _)⟩
set_option maxRecDepth 100000 in
set_option maxHeartbeats 1000000 in
theorem timesP_any (a : Fr) (n m : Int) (h1 : 0 < a.d) (h2 : a.d ≤ 1073741824) (h3 : a.n.natAbs ≤ 1073741824) (h4 : n.natAbs ≤ 1073741824) (h5 : 0 < m) (h6 : m ≤ 1073741824) (w : World) :
    Calls Tryz.prog 39 #[.agg #[.int .i64 a.n, .int .i64 a.d], .int .i64 n, .int .i64 m] w fun e w' => e = .returned (.agg #[.int .i64 (a.times n m).n, .int .i64 (a.times n m).d]) ∧ Below w.heap.size w w' := by
  have p1 := mul_bd h3 h4
  have p2 := mul_bd (x := a.d) (y := m) (by omega) (by omega)
  have p3 := Int.mul_pos h1 h5
  have HF := hid (fun W : World => fracP_any (a.n * n) (a.d * m) (by omega) (by omega) p3 (by omega) W)
  have e : frR (a.n * n) (a.d * m) = a.times n m := rfl
  rw [e] at HF
  generalize a.times n m = q at HF ⊢
  clear e
  obtain ⟨an, ad⟩ := a
  obtain ⟨qn, qd⟩ := q
  simp only [] at p1 p2 p3 HF h1 h2 h3 ⊢
  obtain ⟨x, hx⟩ : ∃ x, x = an * n := ⟨_, rfl⟩
  obtain ⟨z, hz⟩ : ∃ x, x = ad * m := ⟨_, rfl⟩
  rw [← hx, ← hz] at HF
  rw [← hx] at p1
  rw [← hz] at p2 p3
  have x1 := hx.symm; have z1 := hz.symm
  have p11 := p1.1; have p12 := p1.2; have p21 := p2.1; have p22 := p2.2
  clear hx hz p1 p2 h1 h2 h3 h4 h5 h6
  go_enter Tryz.func39, Tryz.ntmps39
  go_wp2_with (first | (go_at_call 60; refine (HF.out _).mono ?_; rintro e w2 ⟨rfl, hb2⟩; have HB2 := hid hb2; obtain ⟨⟨k1, k2⟩, ⟨k3, k4⟩, k5⟩ := res_two (b := w.heap.size + 1) hb2 (nw_blk (by simp)); clear hb2))
  have q1 := World.cell?_setCell_same _ _ (.int .i64 qn) k1
  exact bodyPost_ret (v := .agg #[.int .i64 qn, .int .i64 qd]) (by simp [results, Tryz.results39, go_sem, k2, q1]) rfl ⟨rfl, ((((((Below.refl _ _).alloc (Nat.le_refl _) _).alloc (by simp) _).trans (HB2.out.mono (by simp; omega))).setCell (by simp) _).setCell (by simp) _)⟩
set_option maxRecDepth 100000 in
set_option maxHeartbeats 1000000 in
theorem wholeP_any (n : Int) (w : World) :
    Calls Tryz.prog 37 #[.int .i64 n] w fun e w' => e = .returned (.agg #[.int .i64 (whF n).n, .int .i64 (whF n).d]) ∧ Below w.heap.size w w' := by
  have e : whF n = ⟨n, 1⟩ := rfl
  rw [e]
  clear e
  go_enter Tryz.func37, Tryz.ntmps37
  go_wp2_with fail
  exact bodyPost_ret (v := .agg #[.int .i64 n, .int .i64 1]) (by simp [results, Tryz.results37, go_sem]) rfl ⟨rfl, (Below.refl _ _).alloc (Nat.le_refl _) _⟩
/-- What compare answers. -/
def cmpF (a b : Fr) : Int := if a.lt b then -1 else if b.lt a then 1 else 0
set_option maxRecDepth 100000 in
set_option maxHeartbeats 1000000 in
theorem compareP_any (a b : Fr) (h : SumOk a b) (w : World) :
    Calls Tryz.prog 58 #[.agg #[.int .i64 a.n, .int .i64 a.d], .agg #[.int .i64 b.n, .int .i64 b.d]] w fun e w' => e = .returned (.int .i64 (cmpF a b)) ∧ Below w.heap.size w w' := by
  obtain ⟨⟨⟨p1, p2⟩, p3, p4⟩, p5, p6⟩ := h.prods
  have hc : cmpF a b = if a.n * b.d < b.n * a.d then -1 else if b.n * a.d < a.n * b.d then 1 else 0 := rfl
  rw [hc]
  clear h hc
  obtain ⟨an, ad⟩ := a
  obtain ⟨bn, bd⟩ := b
  simp only [] at p1 p2 p3 p4 ⊢
  have HB := hid fun (q : Nat) => below_drewN (((Below.refl w.heap.size w).alloc (Nat.le_refl _) (.cells #[.int .i64 an, .int .i64 ad] 42)).alloc (by simp) (.cells #[.int .i64 bn, .int .i64 bd] 42)) q
  obtain ⟨x, hx⟩ : ∃ x, x = an * bd := ⟨_, rfl⟩
  obtain ⟨y, hy⟩ : ∃ x, x = bn * ad := ⟨_, rfl⟩
  rw [← hx] at p1 p2
  rw [← hy] at p3 p4
  rw [← hx, ← hy]
  have x1 := hx.symm; have y1 := hy.symm
  clear hx hy p5 p6
  by_cases h1 : x < y
  · rw [if_pos h1]
    go_enter Tryz.func58, Tryz.ntmps58
    go_wp2_with fail
    go_quiet (fail)
    go_wp2_with fail
    go_ret
    exact ⟨rfl, HB.out _⟩
  · rw [if_neg h1]
    have g1 : decide (x < y) = false := decide_eq_false h1
    by_cases h2 : y < x
    · rw [if_pos h2]
      go_enter Tryz.func58, Tryz.ntmps58
      go_wp2_with fail
      go_quiet (fail)
      go_wp2_with fail
      go_ret
      exact ⟨rfl, HB.out _⟩
    · rw [if_neg h2]
      have g2 : decide (y < x) = false := decide_eq_false h2
      go_enter Tryz.func58, Tryz.ntmps58
      go_wp2_with fail
      go_quiet (fail)
      go_wp2_with fail
      go_ret
      exact ⟨rfl, HB.out _⟩
end Go.Proofs.YtimblabaeclhpaaGreat

/- WALK: the lesser and the greater of two fractions; floor and ceiling. -/
namespace Go.Proofs.YtimblabaeclhpaaGreat
open Go.RowKit
set_option maxRecDepth 100000 in
set_option maxHeartbeats 1000000 in
theorem leastP_any (a b : Fr) (h : SumOk a b) (w : World) :
    Calls Tryz.prog 74 #[.agg #[.int .i64 a.n, .int .i64 a.d], .agg #[.int .i64 b.n, .int .i64 b.d]] w fun e w' => e = .returned (.agg #[.int .i64 (minF a b).n, .int .i64 (minF a b).d]) ∧ Below w.heap.size w w' := by
  have HF := hid (fun W : World => compareP_any b a h.swap W)
  have hm : minF a b = if cmpF b a < 0 then b else a := by
    unfold minF cmpF
    by_cases h1 : b.lt a
    · rw [if_pos h1, if_pos h1, if_pos (by decide)]
    · rw [if_neg h1, if_neg h1]
      split
      · rw [if_neg (by decide)]
      · rw [if_neg (by decide)]
  rw [hm]
  generalize cmpF b a = c at HF ⊢
  clear h hm
  obtain ⟨an, ad⟩ := a
  obtain ⟨bn, bd⟩ := b
  simp only [] at HF ⊢
  by_cases hc : c < 0
  · rw [if_pos hc]
    have g1 : decide (c < 0) = true := decide_eq_true hc
    go_enter Tryz.func74, Tryz.ntmps74
    go_wp2_with (first | (go_at_call 58; refine (HF.out _).mono ?_; rintro e w2 ⟨rfl, hb2⟩; have HB2 := hid hb2; obtain ⟨⟨k1, k2⟩, ⟨k3, k4⟩, k5⟩ := res_two (b := w.heap.size + 1 + 1) hb2 (nw_blk (by simp)); obtain ⟨⟨j1, j2⟩, _, j5⟩ := res_two (b := w.heap.size + 1) hb2 (old_blk (nw_blk (by simp))); clear hb2))
    have q1 := World.cell?_setCell_same _ _ (.int .i64 bn) k1
    exact bodyPost_ret (v := .agg #[.int .i64 bn, .int .i64 bd]) (by simp [results, Tryz.results74, go_sem, k2, q1]) rfl ⟨rfl, (((((((Below.refl _ _).alloc (Nat.le_refl _) _).alloc (by simp) _).alloc (by simp; omega) _).trans (HB2.out.mono (by simp; omega))).setCell (by simp; omega) _).setCell (by simp; omega) _)⟩
  · rw [if_neg hc]
    have g1 : decide (c < 0) = false := decide_eq_false hc
    go_enter Tryz.func74, Tryz.ntmps74
    go_wp2_with (first | (go_at_call 58; refine (HF.out _).mono ?_; rintro e w2 ⟨rfl, hb2⟩; have HB2 := hid hb2; obtain ⟨⟨k1, k2⟩, ⟨k3, k4⟩, k5⟩ := res_two (b := w.heap.size + 1 + 1) hb2 (nw_blk (by simp)); obtain ⟨⟨j1, j2⟩, _, j5⟩ := res_two (b := w.heap.size) hb2 (old_blk (old_blk (nw_blk (by simp)))); clear hb2))
    have q1 := World.cell?_setCell_same _ _ (.int .i64 an) k1
    exact bodyPost_ret (v := .agg #[.int .i64 an, .int .i64 ad]) (by simp [results, Tryz.results74, go_sem, k2, q1]) rfl ⟨rfl, (((((((Below.refl _ _).alloc (Nat.le_refl _) _).alloc (by simp) _).alloc (by simp; omega) _).trans (HB2.out.mono (by simp; omega))).setCell (by simp; omega) _).setCell (by simp; omega) _)⟩
/-- Division toward the floor, out of that toward 0. -/
theorem floor_law {n d : Int} (h : 0 < d) : n / d = if n.tmod d < 0 then n.tdiv d - 1 else n.tdiv d := by
  rcases Int.lt_or_le n 0 with hn | hn
  · obtain ⟨m, rfl⟩ : ∃ m : Int, n = -m := ⟨-n, by omega⟩
    have hm : 0 ≤ m := by omega
    rw [Int.neg_tmod, Int.neg_tdiv, Int.tdiv_eq_ediv_of_nonneg hm, Int.tmod_eq_emod_of_nonneg hm]
    have e1 := Int.mul_ediv_add_emod m d
    have e2 := Int.emod_nonneg m (show d ≠ 0 by omega)
    have e3 := Int.emod_lt_of_pos m h
    generalize m / d = q at *
    generalize m % d = r at *
    split
    · refine Int.le_antisymm (Int.le_of_lt_add_one (Int.ediv_lt_of_lt_mul h ?_)) (Int.le_ediv_of_mul_le h ?_)
      · have : (-q - 1 + 1) * d = -(d * q) := by rw [show -q - 1 + 1 = -q by omega, Int.neg_mul, Int.mul_comm]
        omega
      · have : (-q - 1) * d = -(d * q) - d := by rw [Int.sub_mul, Int.neg_mul, Int.mul_comm, Int.one_mul]
        omega
    · refine Int.le_antisymm (Int.le_of_lt_add_one (Int.ediv_lt_of_lt_mul h ?_)) (Int.le_ediv_of_mul_le h ?_)
      · have : (-q + 1) * d = -(d * q) + d := by rw [Int.add_mul, Int.neg_mul, Int.mul_comm, Int.one_mul]
        omega
      · have : -q * d = -(d * q) := by rw [Int.neg_mul, Int.mul_comm]
        omega
  · rw [Int.tdiv_eq_ediv_of_nonneg hn, Int.tmod_eq_emod_of_nonneg hn]
    have e2 := Int.emod_nonneg n (show d ≠ 0 by omega)
    rw [if_neg (by omega)]
set_option maxRecDepth 100000 in
set_option maxHeartbeats 1000000 in
theorem floorP_any (n d : Int) (h1 : -1152921504606846976 ≤ n) (h2 : n ≤ 1152921504606846976) (h3 : 0 < d) (w : World) :
    Calls Tryz.prog 75 #[.agg #[.int .i64 n, .int .i64 d]] w fun e w' => e = .returned (.int .i64 (n / d)) ∧ Below w.heap.size w w' := by
  have hf := floor_law (n := n) h3
  have hq : (n.tdiv d).natAbs ≤ n.natAbs := by
    rw [Int.natAbs_tdiv]
    exact Nat.div_le_self _ _
  rw [hf]
  obtain ⟨q, hqe⟩ : ∃ q, q = n.tdiv d := ⟨_, rfl⟩
  obtain ⟨r, hre⟩ : ∃ q, q = n.tmod d := ⟨_, rfl⟩
  rw [← hqe] at hq
  rw [← hqe, ← hre]
  have e1 := hqe.symm; have e2 := hre.symm
  have q1 : -1152921504606846976 ≤ q := by omega
  have q2 : q ≤ 1152921504606846976 := by omega
  have d1 : d ≠ 0 := by omega
  have d2 : 1 ≤ d := by omega
  clear hf hq hqe hre
  by_cases hr : r < 0
  · have g1 : decide (r < 0) = true := decide_eq_true hr
    rw [if_pos hr]
    go_enter Tryz.func75, Tryz.ntmps75
    go_wp2_with fail
    go_ret
    exact ⟨rfl, (Below.refl _ _).alloc (Nat.le_refl _) _⟩
  · have g1 : decide (r < 0) = false := decide_eq_false hr
    rw [if_neg hr]
    go_enter Tryz.func75, Tryz.ntmps75
    go_wp2_with fail
    go_ret
    exact ⟨rfl, (Below.refl _ _).alloc (Nat.le_refl _) _⟩
set_option maxRecDepth 100000 in
set_option maxHeartbeats 1000000 in
theorem ceilP_any (a : Fr) (h1 : a.n.natAbs ≤ 1152921504606846976) (h3 : 0 < a.d) (w : World) :
    Calls Tryz.prog 59 #[.agg #[.int .i64 a.n, .int .i64 a.d]] w fun e w' => e = .returned (.int .i64 (ceilF a)) ∧ Below w.heap.size w w' := by
  have HF := hid (fun W : World => floorP_any (-a.n) a.d (by omega) (by omega) h3 W)
  have hq : ((-a.n) / a.d).natAbs ≤ (-a.n).natAbs := by
    have := Int.natAbs_ediv_le_natAbs (-a.n) a.d
    exact this
  unfold ceilF
  rw [Int.natAbs_neg] at hq
  generalize (-a.n) / a.d = q at HF hq ⊢
  obtain ⟨an, ad⟩ := a
  simp only [] at HF hq h1 h3 ⊢
  have q1 : -1152921504606846976 ≤ q := by omega
  have q2 : q ≤ 1152921504606846976 := by omega
  have n1 : -1152921504606846976 ≤ an := by omega
  have n2 : an ≤ 1152921504606846976 := by omega
  clear hq h1
  go_enter Tryz.func59, Tryz.ntmps59
  go_wp2_with (first | (go_at_call 75; refine (HF.out _).mono ?_; rintro e w2 ⟨rfl, hb2⟩; have HB2 := hid hb2; clear hb2))
  go_ret
  exact ⟨rfl, ((Below.refl _ _).alloc (Nat.le_refl _) _).trans (HB2.out.mono (by simp))⟩
end Go.Proofs.YtimblabaeclhpaaGreat
