/- WALK: the two gcds, within, and the tests of two tallies. -/
import Derived.Test.YtoljnbbhoeloeaaBase
import Derived.Deep.QuietTactic
import Derived.BigQuiet
namespace Go.Proofs.Ytoljnbbhoeloeaa
open Go.RowKit

theorem wrapq (x : Int) (h : -9223372036854775808 ≤ x ∧ x ≤ 9223372036854775807) : IntKind.i64.wrap x = x := IntWalk.i64_in x h

set_option maxRecDepth 100000 in
set_option maxHeartbeats 400000 in
theorem divisor_any (a b : Nat) (ha : a ≤ 4611686018427387904) (hb : b ≤ 4611686018427387904) (w : World) :
    Calls Try.prog 79 #[.int .i64 a, .int .i64 b] w fun e w' => e = .returned (.int .i64 (Nat.gcd a b)) ∧ ∃ n, w' = w.drewN n := by
  go_enter Try.func79, Try.ntmps79
  go_wp2_with fail
  go_loopw [0, 1] (fun x y wr => ∃ p q : Nat, x = .int .i64 p ∧ y = .int .i64 q ∧ p ≤ 4611686018427387904 ∧ q ≤ 4611686018427387904 ∧ Nat.gcd p q = Nat.gcd a b ∧ ∃ n, wr = w.drewN n) (fun _ y _ => (intOf y).toNat)
  case atStart => exact ⟨a, b, rfl, rfl, ha, hb, rfl, 0, rfl⟩
  case round =>
    obtain ⟨p, q, rfl, rfl, hp, hq, hg, n, rfl⟩ := hrel
    have Hg := hid hg; clear hg
    by_cases h0 : 0 < q
    · go_wp2_with fail
      have r1 : (1 : Int) ≤ q := by omega
      have r2 : (0 : Int) ≤ p := by omega
      go_quiet (fail)
      go_wp2_with fail
      go_roundw
      case rel =>
        have hlt := Nat.mod_lt p h0
        exact ⟨q, p % q, rfl, by go_num, hq, by omega, by rw [← Hg.out, Nat.gcd_comm q, ← Nat.gcd_rec, Nat.gcd_comm], n + nq, World.drewN_drewN _ _ _⟩
      case measure => simp [intOf]; have := Nat.mod_lt p h0; omega
    · obtain rfl : q = 0 := by omega
      go_wp2
      go_ret
      exact ⟨by rw [← Hg.out, Nat.gcd_zero_right]; rfl, n, rfl⟩

set_option maxRecDepth 100000 in
set_option maxHeartbeats 400000 in
theorem gcd_any (a b : Nat) (ha : a ≤ 4611686018427387904) (hb : b ≤ 4611686018427387904) (w : World) :
    Calls Try.prog 57 #[.int .i64 a, .int .i64 b] w fun e w' => e = .returned (.int .i64 (Nat.gcd a b)) ∧ ∃ n, w' = w.drewN n := by
  go_enter Try.func57, Try.ntmps57
  go_wp2_with fail
  go_loopw [0, 1] (fun x y wr => ∃ p q : Nat, x = .int .i64 p ∧ y = .int .i64 q ∧ p ≤ 4611686018427387904 ∧ q ≤ 4611686018427387904 ∧ Nat.gcd p q = Nat.gcd a b ∧ ∃ n, wr = w.drewN n) (fun x _ _ => (intOf x).toNat)
  case atStart => exact ⟨a, b, rfl, rfl, ha, hb, rfl, 0, rfl⟩
  case round =>
    obtain ⟨p, q, rfl, rfl, hp, hq, hg, n, rfl⟩ := hrel
    have Hg := hid hg; clear hg
    by_cases h0 : 0 < p
    · go_wp2_with fail
      have r1 : (1 : Int) ≤ p := by omega
      have r2 : (0 : Int) ≤ q := by omega
      try go_quiet (fail)
      go_wp2_with fail
      go_roundw
      case rel =>
        have hlt := Nat.mod_lt q h0
        first
          | exact ⟨q % p, p, by go_num, rfl, by omega, hp, by rw [← Hg.out, ← Nat.gcd_rec], n + nq, World.drewN_drewN _ _ _⟩
          | exact ⟨q % p, p, by go_num, rfl, by omega, hp, by rw [← Hg.out, ← Nat.gcd_rec], n, rfl⟩
      case measure => simp [intOf]; have := Nat.mod_lt q h0; omega
    · obtain rfl : p = 0 := by omega
      go_wp2
      go_ret
      exact ⟨by rw [← Hg.out, Nat.gcd_zero_left]; rfl, n, rfl⟩

theorem within_any (n lo hi : Int) (w : World) :
    Calls Try.prog 61 #[.int .i64 n, .int .i64 lo, .int .i64 hi] w fun e w' => e = .returned (.bool (decide (lo ≤ n ∧ n ≤ hi))) ∧ w = w' := by
  by_cases h1 : lo ≤ n
  · by_cases h2 : n ≤ hi
    all_goals
      go_enter Try.func61, Try.ntmps61
      go_wp2
      go_ret
      simp [h1, h2]
  · go_enter Try.func61, Try.ntmps61
    go_wp2
    go_ret
    exact ⟨by rw [decide_eq_false (by omega)]; rfl, rfl⟩
end Go.Proofs.Ytoljnbbhoeloeaa
