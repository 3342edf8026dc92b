/- WALK: whether a fraction is above another one. -/
import Derived.Test.YtoljnbbhoeloeaaFisherB
import Derived.Shelf.Bits.Mul64
namespace Go.Proofs.Ytoljnbbhoeloeaa
open Go.RowKit Go.Shelf
def Try.lMul_ren : Go.Shelf.Ren := ⟨fun | 264 => 83 | n => n, fun | 46 => 139 | 53 => 131 | n => n, fun | n => n⟩
theorem Try.lMul : Go.Proofs.Lays.n264 Try.prog Try.lMul_ren where
  mixed := by kernel_rfl
  f264 := Try.func83.trans (congrArg some (by kernel_rfl))
  t46 := Try.underlying139
  a46 := Try.isAgg139
  z46 := Try.sizeOf139
  v46 := Try.zeroValue139
  t53 := Try.underlying131
  a53 := Try.isAgg131
  z53 := Try.sizeOf131
  v53 := Try.zeroValue131
theorem mul64_any (x y : Nat) (hx : x < 18446744073709551616) (hy : y < 18446744073709551616) (w : World) :
    Calls Try.prog 83 #[.int .u64 x, .int .u64 y] w fun e w' => e = .returned (.tuple #[.int .u64 ((x * y / 18446744073709551616 : Nat) : Int), .int .u64 ((x * y % 18446744073709551616 : Nat) : Int)]) ∧ w' = w :=
  Any.bits_Mul64 Try.lMul x y hx hy w
set_option maxRecDepth 100000 in
set_option maxHeartbeats 1000000 in
theorem above_any (p q n d : Nat) (hp : p ≤ 2 ^ 60) (hq : q ≤ 2 ^ 60) (hn : n ≤ 10000) (hd : d ≤ 10000) (w : World) :
    Calls Try.prog 62 #[.agg #[.int .i64 p, .int .i64 q], .agg #[.int .i64 n, .int .i64 d]] w fun e w' => e = .returned (.bool (decide (n * q < p * d))) ∧ Below w.heap.size w w' := by
  have h1 := fun W => mul64_any p d (by omega) (by omega) W
  have h2 := fun W => mul64_any n q (by omega) (by omega) W
  generalize p * d = H at *
  generalize n * q = T at *
  obtain ⟨a, ha⟩ : ∃ a, a = H / 18446744073709551616 := ⟨_, rfl⟩
  obtain ⟨b, hb⟩ : ∃ b, b = H % 18446744073709551616 := ⟨_, rfl⟩
  obtain ⟨c, hc⟩ : ∃ c, c = T / 18446744073709551616 := ⟨_, rfl⟩
  obtain ⟨e, he⟩ : ∃ e, e = T % 18446744073709551616 := ⟨_, rfl⟩
  rw [← ha, ← hb] at h1
  rw [← hc, ← he] at h2
  have H1 := hid h1; have H2 := hid h2
  have key : (decide (T < H)) = (decide (c < a) || (decide (a = c) && decide (e < b))) := by
    rw [Bool.eq_iff_iff]
    simp
    omega
  have Key := hid key
  have hp' : (p : Int) ≤ 1152921504606846976 := by omega
  have hq' : (q : Int) ≤ 1152921504606846976 := by omega
  clear h1 h2 ha hb hc he key
  go_enter Try.func62, Try.ntmps62
  go_wp2_with fail
  refine (H1.out _).mono ?_
  rintro r w1 ⟨rfl, rfl⟩
  go_wp2_with fail
  refine (H2.out _).mono ?_
  rintro r w2 ⟨rfl, rfl⟩
  have hB : Below w.heap.size w ((w.alloc (.cells #[.int .i64 p, .int .i64 q] 40)).alloc (.cells #[.int .i64 n, .int .i64 d] 40)) := ((Below.refl _ _).alloc (Nat.le_refl _) _).alloc (by simp) _
  by_cases g1 : c < a
  · go_wp2_with fail
    go_ret
    exact ⟨by rw [Key.out]; simp [g1], hB⟩
  · by_cases g2 : a = c
    · subst g2
      by_cases g3 : e < b
      · go_wp2_with fail
        go_ret
        exact ⟨by rw [Key.out]; simp [g3], hB⟩
      · go_wp2_with fail
        go_ret
        exact ⟨by rw [Key.out]; simp [g3], hB⟩
    · go_wp2_with fail
      go_ret
      exact ⟨by rw [Key.out]; simp [g1, g2], hB⟩
end Go.Proofs.Ytoljnbbhoeloeaa
