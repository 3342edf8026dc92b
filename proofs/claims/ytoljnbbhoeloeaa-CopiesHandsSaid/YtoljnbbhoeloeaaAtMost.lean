/- WALK: the document's comparison of a chance with a limit. -/
import Derived.Test.YtoljnbbhoeloeaaFisherB
namespace Go.Proofs.Ytoljnbbhoeloeaa
open Go.RowKit
/-- The two parts of a product. -/
theorem parts (p d : Nat) : p / 1073741824 * d + p % 1073741824 * d / 1073741824 = p * d / 1073741824 ∧ p % 1073741824 * d % 1073741824 = p * d % 1073741824 := by
  have h : p * d = p % 1073741824 * d + 1073741824 * (p / 1073741824 * d) := by
    conv => lhs; rw [← Nat.mod_add_div p 1073741824, Nat.add_mul, Nat.mul_assoc]
  constructor
  · rw [h, Nat.add_mul_div_left _ _ (by decide)]; omega
  · rw [h, Nat.add_mul_mod_self_left]
set_option maxRecDepth 100000 in
set_option maxHeartbeats 2000000 in
theorem atMost_any (p q n d : Nat) (hp : p ≤ 2 ^ 60) (hq : q ≤ 2 ^ 60) (hn : n ≤ 10000) (hd : d ≤ 10000) (w : World) :
    Calls Try.prog 64 #[.agg #[.int .i64 p, .int .i64 q], .agg #[.int .i64 n, .int .i64 d]] w fun e w' => e = .returned (.bool (decide (p * d ≤ n * q))) ∧ Below w.heap.size w w' := by
  have b1 : p / 1073741824 ≤ 1073741824 := by omega
  have b2 : q / 1073741824 ≤ 1073741824 := by omega
  have b3 : p % 1073741824 < 1073741824 := Nat.mod_lt _ (by decide)
  have b4 : q % 1073741824 < 1073741824 := Nat.mod_lt _ (by decide)
  obtain ⟨x0, hx0⟩ : ∃ x, x = p / 1073741824 * d := ⟨_, rfl⟩
  obtain ⟨x1, hx1⟩ : ∃ x, x = p % 1073741824 * d := ⟨_, rfl⟩
  obtain ⟨y0, hy0⟩ : ∃ x, x = q / 1073741824 * n := ⟨_, rfl⟩
  obtain ⟨y1, hy1⟩ : ∃ x, x = q % 1073741824 * n := ⟨_, rfl⟩
  have c1 : x0 ≤ 10737418240000 := by rw [hx0]; exact Nat.le_trans (Nat.mul_le_mul b1 hd) (by decide)
  have c2 : x1 ≤ 10737418240000 := by rw [hx1]; exact Nat.le_trans (Nat.mul_le_mul (Nat.le_of_lt b3) hd) (by decide)
  have c3 : y0 ≤ 10737418240000 := by rw [hy0]; exact Nat.le_trans (Nat.mul_le_mul b2 hn) (by decide)
  have c4 : y1 ≤ 10737418240000 := by rw [hy1]; exact Nat.le_trans (Nat.mul_le_mul (Nat.le_of_lt b4) hn) (by decide)
  obtain ⟨e1, e2⟩ := parts p d
  obtain ⟨e3, e4⟩ := parts q n
  rw [← hx0, ← hx1] at e1
  rw [← hx1] at e2
  rw [← hy0, ← hy1] at e3
  rw [← hy1] at e4
  have key : decide (p * d ≤ n * q) = (decide (x0 + x1 / 1073741824 < y0 + y1 / 1073741824) || (decide (x0 + x1 / 1073741824 = y0 + y1 / 1073741824) && decide (x1 % 1073741824 ≤ y1 % 1073741824))) := by
    rw [Nat.mul_comm n q, e1, e2, e3, e4, Bool.eq_iff_iff]
    simp
    omega
  have Key := hid key
  have m1 : IntKind.i64.wrap ((p : Int) / 1073741824 * d) = (x0 : Int) := by rw [hx0]; rw [show (p : Int) / 1073741824 * d = ((p / 1073741824 * d : Nat) : Int) by simp]; rw [← hx0]; exact IntWalk.i64_in _ (by omega)
  have m2 : IntKind.i64.wrap ((p : Int) % 1073741824 * d) = (x1 : Int) := by rw [hx1]; rw [show (p : Int) % 1073741824 * d = ((p % 1073741824 * d : Nat) : Int) by simp]; rw [← hx1]; exact IntWalk.i64_in _ (by omega)
  have m3 : IntKind.i64.wrap ((q : Int) / 1073741824 * n) = (y0 : Int) := by rw [hy0]; rw [show (q : Int) / 1073741824 * n = ((q / 1073741824 * n : Nat) : Int) by simp]; rw [← hy0]; exact IntWalk.i64_in _ (by omega)
  have m4 : IntKind.i64.wrap ((q : Int) % 1073741824 * n) = (y1 : Int) := by rw [hy1]; rw [show (q : Int) % 1073741824 * n = ((q % 1073741824 * n : Nat) : Int) by simp]; rw [← hy1]; exact IntWalk.i64_in _ (by omega)
  have p0 : (0 : Int) ≤ (p : Int) := by omega
  have p1 : (0 : Int) ≤ (q : Int) := by omega
  have hp' : (p : Int) ≤ 1152921504606846976 := by omega
  have hq' : (q : Int) ≤ 1152921504606846976 := by omega
  clear hx0 hx1 hy0 hy1 e1 e2 e3 e4 key
  go_enter Try.func64, Try.ntmps64
  go_wp2_with fail
  obtain ⟨w1, hw1⟩ : ∃ w1, w1 = (((w.alloc (.cells #[.int .i64 p, .int .i64 q] 43)).alloc (.cells #[.int .i64 n, .int .i64 d] 43)).alloc (.cells #[.int .i64 x0, .int .i64 x1] 3)).alloc (.cells #[.int .i64 y0, .int .i64 y1] 3) := ⟨_, rfl⟩
  have k0 : w1.cell? ⟨w.heap.size + 1 + 1, 0, none⟩ = some (.int .i64 x0) := by rw [hw1]; simp [go_sem]
  have k1 : w1.cell? ⟨w.heap.size + 1 + 1, 1, none⟩ = some (.int .i64 x1) := by rw [hw1]; simp [go_sem]
  have k2 : w1.cell? ⟨w.heap.size + 1 + 1 + 1, 0, none⟩ = some (.int .i64 y0) := by rw [hw1]; simp [go_sem]
  have k3 : w1.cell? ⟨w.heap.size + 1 + 1 + 1, 1, none⟩ = some (.int .i64 y1) := by rw [hw1]; simp [go_sem]
  have z0 : w1.frozen? ⟨w.heap.size + 1 + 1, 0, none⟩ = false := by rw [hw1]; simp [go_sem]
  have z1 : w1.frozen? ⟨w.heap.size + 1 + 1, 1, none⟩ = false := by rw [hw1]; simp [go_sem]
  have z2 : w1.frozen? ⟨w.heap.size + 1 + 1 + 1, 0, none⟩ = false := by rw [hw1]; simp [go_sem]
  have z3 : w1.frozen? ⟨w.heap.size + 1 + 1 + 1, 1, none⟩ = false := by rw [hw1]; simp [go_sem]
  have hb : Below w.heap.size w w1 := by rw [hw1]; exact ((((Below.refl _ _).alloc (Nat.le_refl _) _).alloc (by simp) _).alloc (by simp; omega) _).alloc (by simp; omega) _
  have hs : w1.heap.size = w.heap.size + 1 + 1 + 1 + 1 := by rw [hw1]; simp
  rw [← hw1]
  clear hw1
  have Hb := hid hb; clear hb
  clear m1 m2 m3 m4 p0 p1 hp' hq' hp hq hn hd b1 b2 b3 b4
  obtain ⟨u0, hu0⟩ : ∃ u, u = x0 + x1 / 1073741824 := ⟨_, rfl⟩
  obtain ⟨u1, hu1⟩ : ∃ u, u = x1 % 1073741824 := ⟨_, rfl⟩
  obtain ⟨v0, hv0⟩ : ∃ u, u = y0 + y1 / 1073741824 := ⟨_, rfl⟩
  obtain ⟨v1, hv1⟩ : ∃ u, u = y1 % 1073741824 := ⟨_, rfl⟩
  have m1 : IntKind.i64.wrap ((x0 : Int) + x1 / 1073741824) = (u0 : Int) := (IntWalk.i64_in _ (by omega)).trans (by omega)
  have m2 : IntKind.i64.wrap ((y0 : Int) + y1 / 1073741824) = (v0 : Int) := (IntWalk.i64_in _ (by omega)).trans (by omega)
  have m3 : (x1 : Int) % 1073741824 = (u1 : Int) := by omega
  have m4 : (y1 : Int) % 1073741824 = (v1 : Int) := by omega
  have key := Key.out
  rw [← hu0, ← hu1, ← hv0, ← hv1] at key
  clear Key
  have Key := hid key
  clear key hu0 hu1 hv0 hv1
  go_region
  obtain ⟨w2, hw2⟩ : ∃ w2, w2 = ((w1.setCell ⟨w.heap.size + 1 + 1, 0, none⟩ (.int .i64 u0)).setCell ⟨w.heap.size + 1 + 1, 1, none⟩ (.int .i64 u1)).drew := ⟨_, rfl⟩
  have j0 : w2.cell? ⟨w.heap.size + 1 + 1, 0, none⟩ = some (.int .i64 u0) := by rw [hw2]; simp [go_sem, k0, k1, k2, k3]
  have j1 : w2.cell? ⟨w.heap.size + 1 + 1, 1, none⟩ = some (.int .i64 u1) := by rw [hw2]; simp [go_sem, k0, k1, k2, k3]
  have j2 : w2.cell? ⟨w.heap.size + 1 + 1 + 1, 0, none⟩ = some (.int .i64 y0) := by rw [hw2]; simp [go_sem, k0, k1, k2, k3]
  have j3 : w2.cell? ⟨w.heap.size + 1 + 1 + 1, 1, none⟩ = some (.int .i64 y1) := by rw [hw2]; simp [go_sem, k0, k1, k2, k3]
  have l2 : w2.frozen? ⟨w.heap.size + 1 + 1 + 1, 0, none⟩ = false := by rw [hw2]; simp [go_sem, z2]
  have l3 : w2.frozen? ⟨w.heap.size + 1 + 1 + 1, 1, none⟩ = false := by rw [hw2]; simp [go_sem, z3]
  have hs2 : w2.heap.size = w.heap.size + 1 + 1 + 1 + 1 := by rw [hw2]; simp [hs]
  have hb2 : Below w.heap.size w w2 := by rw [hw2]; exact (below_drewN (((Hb.out).setCell (by simp; omega) _).setCell (by simp; omega) _) 1)
  rw [← hw2]
  have Hb2 := hid hb2
  clear hw2 hb2 k0 k1 k2 k3 z0 z1 z2 z3 hs Hb m1 m3
  go_wp2_with fail
  go_region
  obtain ⟨w3, hw3⟩ : ∃ w3, w3 = ((w2.setCell ⟨w.heap.size + 1 + 1 + 1, 0, none⟩ (.int .i64 v0)).setCell ⟨w.heap.size + 1 + 1 + 1, 1, none⟩ (.int .i64 v1)).drew := ⟨_, rfl⟩
  have k0 : w3.cell? ⟨w.heap.size + 1 + 1, 0, none⟩ = some (.int .i64 u0) := by rw [hw3]; simp [go_sem, j0, j1, j2, j3]
  have k1 : w3.cell? ⟨w.heap.size + 1 + 1, 1, none⟩ = some (.int .i64 u1) := by rw [hw3]; simp [go_sem, j0, j1, j2, j3]
  have k2 : w3.cell? ⟨w.heap.size + 1 + 1 + 1, 0, none⟩ = some (.int .i64 v0) := by rw [hw3]; simp [go_sem, j0, j1, j2, j3]
  have k3 : w3.cell? ⟨w.heap.size + 1 + 1 + 1, 1, none⟩ = some (.int .i64 v1) := by rw [hw3]; simp [go_sem, j0, j1, j2, j3]
  have hs3 : w3.heap.size = w.heap.size + 1 + 1 + 1 + 1 := by rw [hw3]; simp [hs2]
  have hb3 : Below w.heap.size w w3 := by rw [hw3]; exact (below_drewN (((Hb2.out).setCell (by simp; omega) _).setCell (by simp; omega) _) 1)
  rw [← hw3]
  have Hb3 := hid hb3
  clear hw3 hb3 j0 j1 j2 j3 l2 l3 hs2 Hb2 m2 m4
  by_cases g1 : u0 < v0
  · go_wp2_with fail
    go_quiet (fail)
    go_wp2_with fail
    go_ret
    exact ⟨by rw [Key.out]; simp [g1], below_drewN Hb3.out _⟩
  · by_cases g2 : u0 = v0
    · subst g2
      by_cases g3 : u1 ≤ v1
      · go_wp2_with fail
        go_quiet (fail)
        go_wp2_with fail
        go_ret
        exact ⟨by rw [Key.out]; simp [g3], below_drewN Hb3.out _⟩
      · go_wp2_with fail
        go_quiet (fail)
        go_wp2_with fail
        go_ret
        exact ⟨by rw [Key.out]; simp [g3], below_drewN Hb3.out _⟩
    · have g4 : ¬ (u0 : Int) = v0 := by omega
      have g5 : ((u0 : Int) == v0) = false := by simp only [beq_eq_false_iff_ne]; exact g4
      go_wp2_with fail
      go_quiet (fail)
      go_wp2_with fail
      go_ret
      exact ⟨by rw [Key.out]; simp [g1, g2], below_drewN Hb3.out _⟩
end Go.Proofs.Ytoljnbbhoeloeaa
