/- WALK: copies.Fisher. -/
import Derived.Test.YtoljnbbhoeloeaaTri
import Derived.Test.YtoljnbbhoeloeaaFair
namespace Go.Proofs.Ytoljnbbhoeloeaa
open Go.RowKit
/-- The closure weight: its captured variables are two rows of binomial numbers and a number. -/
structure WMem (m o r : Nat) (bx b_y br gx cx gy cy : Nat) (w : World) : Prop where
  x : w.cell? ⟨bx, 0, none⟩ = some (.slice (some ⟨gx, 0, none⟩) (m + 1) cx)
  y : w.cell? ⟨b_y, 0, none⟩ = some (.slice (some ⟨gy, 0, none⟩) (o + 1) cy)
  r_ : w.cell? ⟨br, 0, none⟩ = some (.int .i64 r)
  xs : ∀ j, j < m + 1 → w.cell? ⟨gx, j, none⟩ = some (.int .i64 (ch m j))
  ys : ∀ j, j < o + 1 → w.cell? ⟨gy, j, none⟩ = some (.int .i64 (ch o j))
set_option maxRecDepth 100000 in
set_option maxHeartbeats 400000 in
theorem weight_any {m o r bx b_y br gx cx gy cy : Nat} {w : World} (h : WMem m o r bx b_y br gx cx gy cy w) (hmo : m + o ≤ 60) (k : Nat) (hk : k ≤ m) (hkr : k ≤ r) (hro : r ≤ k + o) :
    Calls Try.prog 78 #[.int .i64 k, .pointer (some ⟨bx, 0, none⟩), .pointer (some ⟨b_y, 0, none⟩), .pointer (some ⟨br, 0, none⟩)] w fun e w' => e = .returned (.int .i64 (wgt m o r k)) ∧ ∃ n, w' = w.drewN n := by
  have h1 := h.x
  have h2 := h.y
  have h3 := h.r_
  have h4 := h.xs k (by omega)
  have h5 := h.ys (r - k) (by omega)
  have q1 : IntKind.i64.wrap ((r : Int) - k) = (r : Int) - k := IntWalk.i64_in _ (by omega)
  have q2 : ((r : Int) - k).toNat = r - k := by omega
  have q3 : (0 : Int) ≤ (r : Int) - k := by omega
  have q4 : (r : Int) - k < o + 1 := by omega
  have q5 : (k : Int) < m + 1 := by omega
  have hw : wgt m o r k = ch m k * ch o (r - k) := wgt_of_le hkr
  have hb : wgt m o r k ≤ 2 ^ 60 := by
    have b1 := wgt_le m o r k
    have b2 := Nat.mul_le_mul_right (2 ^ o) (ch_le m k)
    rw [← Nat.pow_add] at b2
    have b3 : 2 ^ (m + o) ≤ 2 ^ 60 := Nat.pow_le_pow_right (by omega) hmo
    omega
  have q6 : IntKind.i64.wrap ((ch m k : Int) * ch o (r - k)) = (wgt m o r k : Int) := by
    rw [hw, ← Int.natCast_mul]; rw [hw] at hb; exact IntWalk.i64_in _ (by omega)
  clear hw hb h hmo hk hro
  go_enter Try.func78, Try.ntmps78
  go_wp2_with fail
  go_quiet (fail)
  go_wp2
  go_ret
  exact ⟨rfl, _, rfl⟩
end Go.Proofs.Ytoljnbbhoeloeaa
