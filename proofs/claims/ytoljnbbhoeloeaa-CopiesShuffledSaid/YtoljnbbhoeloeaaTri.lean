/- WALK: copies.triangle returns the row of binomial numbers. -/
import Derived.Test.YtoljnbbhoeloeaaBase
import Derived.Test.YtoljnbbhoeloeaaBinom
import Derived.StillTailTactics
namespace Go.Proofs.Ytoljnbbhoeloeaa
open Go.RowKit
/-- The first k binomial numbers of a row. -/
def rowTo (n k : Nat) : List Int := (List.range k).map fun j => (ch n j : Int)
theorem rowTo_succ (n k : Nat) : rowTo n (k + 1) = rowTo n k ++ [(ch n k : Int)] := by simp [rowTo, List.range_succ]
theorem rowTo_len (n k : Nat) : (rowTo n k).length = k := by simp [rowTo]
theorem rowTo_get {n k j : Nat} (h : j < k) : (rowTo n k).getD j 0 = (ch n j : Int) := by simp [rowTo, h]

theorem tri_round {w : World} {B : Nat} {v : Value} {n j : Nat} (h : w.ownsRow B 3 1 v (n + 1) (ints (rowTo n (n + 1)))) (hj : j < n + 1) :
    ∃ g c, v = .slice (some ⟨g, 0, none⟩) (n + 1) c ∧ w.cell? ⟨g, j, none⟩ = some (.int .i64 (ch n j)) := by
  obtain ⟨g, c, rfl, _, _⟩ := h.form (by omega)
  refine ⟨g, c, rfl, ?_⟩
  have := h.cells (g := g) rfl j (.int .i64 (ch n j)) (by rw [ints_get (by rw [rowTo_len]; exact hj), rowTo_get hj])
  simpa [Addr.add_lit] using this

set_option maxRecDepth 100000 in
set_option maxHeartbeats 400000 in
theorem triangle_any (n : Nat) (hn : n ≤ 60) (w : World) :
    Calls Try.prog 77 #[.int .i64 n] w fun e w' => ∃ v, e = .returned v ∧ w'.ownsRow w.heap.size 3 1 v (n + 1) (ints (rowTo n (n + 1))) ∧ Below w.heap.size w w' := by
  obtain ⟨i0, hi, hz0, hz1, hz2⟩ := info_parts Try.infoInt
  go_enter Try.func77, Try.ntmps77
  go_wp2_with fail
  go_loopw [3, 8] (fun v i wr => ∃ k : Nat, k ≤ n ∧ i = .int .i64 k ∧ wr.ownsRow w.heap.size 3 1 v (k + 1) (ints (rowTo k (k + 1))) ∧ Below w.heap.size w wr) (fun _ i _ => n - (intOf i).toNat)
  case atStart => exact ⟨0, by omega, rfl, own_lit w _ _ (Nat.le_refl _) rfl (by decide), (Below.refl _ _).alloc (Nat.le_refl _) _⟩
  case round =>
    obtain ⟨k, hk, rfl, hown, hbel⟩ := hrel
    obtain ⟨wo, rfl⟩ : ∃ wo : World, wo = wr := ⟨_, rfl⟩
    have hsz := hbel.size
    by_cases hlt : k < n
    · obtain ⟨g, c, rfl, hgB, hgl⟩ := hown.form (by omega)
      go_wp2_with fail
      go_loopw [4, 5] (fun v i wi => ∃ j : Nat, j ≤ k ∧ i = .int .i64 (j + 1) ∧ wi.ownsRow wo.heap.size 3 1 v (j + 1) (ints (rowTo (k + 1) (j + 1))) ∧ Below wo.heap.size wo wi) (fun _ i _ => n + 1 - (intOf i).toNat)
      case atStart => exact ⟨0, by omega, rfl, own_lit wo _ _ (Nat.le_refl _) rfl (by decide), (Below.refl _ _).alloc (Nat.le_refl _) _⟩
      case round =>
        obtain ⟨j, hj, rfl, hown2, hbel2⟩ := hrel
        have hsz2 := hbel2.size
        by_cases hjk : j < k
        · have hc1 : wr.cell? ⟨g, j, none⟩ = some (.int .i64 (ch k j)) := by rw [← rowTo_get (show j < k + 1 by omega)]; exact own_int hown hbel2 (by omega)
          have hc2 : wr.cell? ⟨g, j + 1, none⟩ = some (.int .i64 (ch k (j + 1))) := by rw [← rowTo_get (show j + 1 < k + 1 by omega)]; exact own_int hown hbel2 (by omega)
          have b1 := ch_le k j
          have b2 := ch_le k (j + 1)
          have b3 : 2 ^ k ≤ 2 ^ 60 := Nat.pow_le_pow_right (by omega) (by omega)
          go_wp2_with fail
          have q1 : IntKind.i64.wrap (j : Int) = j := IntWalk.i64_in _ (by omega)
          have q2 : (j : Int) < k + 1 := by omega
          have q3 : (0 : Int) ≤ (j : Int) + 1 := by omega
          have q4 : (j : Int) + 1 < k + 1 := by omega
          have q5 : ((j : Int) + 1).toNat = j + 1 := by omega
          have q6 : IntKind.i64.wrap ((ch k j : Int) + ch k (j + 1)) = (ch k j : Int) + ch k (j + 1) := IntWalk.i64_in _ (by omega)
          clear b1 b2 b3
          go_region_held3 (fun w' => w'.cell? ⟨g, j, none⟩ = some (.int .i64 (ch k j)) ∧ w'.cell? ⟨g, j + 1, none⟩ = some (.int .i64 (ch k (j + 1)))) (first | exact ⟨hc1, hc2⟩ | exact ⟨(World.cell?_alloc_lt _ _ _ (by simp; omega)).trans hc1, (World.cell?_alloc_lt _ _ _ (by simp; omega)).trans hc2⟩ | exact ⟨hc3, hc4⟩)
            (first | (go_loud (refine step_one rfl (.tmp 17) (.tmp 28) Try.underlying22 Try.infoInt rfl (by decide) rfl wo.heap.size _ _ _ rfl (hown2.alloc _) ⟨wr.heap.size, 0, none⟩ (.int .i64 ((ch k j : Int) + (ch k (j + 1) : Int))) (by simp [Act.eval]) (cell_new1 _ _ _) rfl (by omega) (by simp; omega) ?_; intro v' w1 hown3 hgrow); go_loud (have hc3 : w1.cell? ⟨g, j, none⟩ = some (.int .i64 (ch k j)) := cell_grown (hown2.alloc _).drew hgrow hgl ((World.cell?_alloc_lt _ _ _ (by simp; omega)).trans hc1); have hc4 : w1.cell? ⟨g, j + 1, none⟩ = some (.int .i64 (ch k (j + 1))) := cell_grown (hown2.alloc _).drew hgrow hgl ((World.cell?_alloc_lt _ _ _ (by simp; omega)).trans hc2))))
          clear q1 q2 q3 q4 q5 q6 hc1 hc2
          go_wp2_with fail
          go_roundw
          case rel => exact ⟨j + 1, by omega, by go_num, by rw [rowTo_succ, ints_append]; exact hown3, below_app (hbel2.alloc hsz2 _).drew (hown2.alloc _).drew hgrow (Nat.le_refl _) (by simp; omega)⟩
          case measure => simp [intOf]; omega
        · obtain rfl : j = k := by omega
          go_wp2_with (at_builtin; refine app_one rfl (.tmp 30) (.tmp 31) Try.underlying22 Try.infoInt rfl (by decide) rfl wo.heap.size _ _ _ rfl (hown2.alloc _) ⟨wr.heap.size, 0, none⟩ (.int .i64 1) rfl (cell_new1 _ _ _) rfl (by omega) (by simp; omega) ?_; intro v' w1 hown3 hgrow)
          go_roundw
          case rel => exact ⟨j + 1, by omega, by go_num, by rw [rowTo_succ, ints_append, ch_self]; exact own_base hown3 hsz, hbel.trans ((below_app (hbel2.alloc hsz2 _) (hown2.alloc _) hgrow (Nat.le_refl _) (by simp; omega)).mono hsz)⟩
          case measure => simp [intOf]; omega
    · obtain rfl : k = n := by omega
      go_wp2
      go_ret
      exact ⟨_, rfl, hown, hbel⟩
end Go.Proofs.Ytoljnbbhoeloeaa
