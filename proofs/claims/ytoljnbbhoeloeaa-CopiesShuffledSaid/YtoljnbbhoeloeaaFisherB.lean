/- WALK: copies.Fisher, on. -/
import Derived.Test.YtoljnbbhoeloeaaFisher
namespace Go.Proofs.Ytoljnbbhoeloeaa
open Go.RowKit
theorem bcell {W w1 : World} (hb : Below W.heap.size W w1) : (∀ b o, b < W.heap.size → w1.cell? ⟨b, o, none⟩ = W.cell? ⟨b, o, none⟩) ∧ (∀ b o, b < W.heap.size → w1.frozen? ⟨b, o, none⟩ = W.frozen? ⟨b, o, none⟩) :=
  ⟨fun b o h => hb.cell (p := ⟨b, o, none⟩) h, fun b o h => hb.frozen (p := ⟨b, o, none⟩) h⟩
theorem below_drewN {B : Nat} {a w : World} (h : Below B a w) (n : Nat) : Below B a (w.drewN n) := ⟨h.os, h.tape, h.output, h.size, h.block⟩
theorem wrap_div (a b : Nat) (ha : a ≤ 2 ^ 60) : IntKind.i64.wrap ((a : Int) / (b : Int)) = (a / b : Nat) := by
  have h := Nat.div_le_self a b
  rw [← Int.natCast_ediv]
  generalize a / b = c at h
  exact IntWalk.i64_in _ (by omega)
/-- The value of the fraction num / den in lowest terms. -/
def frac (p q : Nat) : Value := .agg #[.int .i64 (p / Nat.gcd p q : Nat), .int .i64 (q / Nat.gcd p q : Nat)]
set_option maxRecDepth 100000 in
set_option maxHeartbeats 1000000 in
theorem fisher_any (a1 a2 b1 b2 m o r : Nat) (hm : a1 + a2 = m) (ho : b1 + b2 = o) (hr : a1 + b1 = r) (hf : m + o ≤ 60) (w : World) :
    Calls Try.prog 54 #[.agg #[.int .i64 a1, .int .i64 a2], .agg #[.int .i64 b1, .int .i64 b2]] w fun e w' =>
      e = .returned (frac (fNum m o r a1) (fDen m o r)) ∧ Below w.heap.size w w' := by
  have q1 : IntKind.i64.wrap ((a1 : Int) + a2) = m := (IntWalk.i64_in _ (by omega)).trans (by omega)
  have q2 : IntKind.i64.wrap ((b1 : Int) + b2) = o := (IntWalk.i64_in _ (by omega)).trans (by omega)
  have q3 : (a1 : Int) + b1 = r := by omega
  have q4 : a1 ≤ m ∧ a1 ≤ r ∧ r ≤ a1 + o := by omega
  clear hm ho hr
  obtain ⟨q4, q5, q6⟩ := q4
  go_enter Try.func54, Try.ntmps54
  go_wp2_with fail
  go_quiet (fail)
  clear q1 q2
  go_wp2_with fail
  refine (triangle_any m (by omega) _).mono ?_
  rintro e w1 ⟨x, rfl, hx, hb1⟩
  obtain ⟨hc1, hf1⟩ := bcell hb1
  have hz1 := hb1.size
  go_wp2_with fail
  refine (triangle_any o (by omega) _).mono ?_
  rintro e w2 ⟨y, rfl, hy, hb2⟩
  obtain ⟨hc2, hf2⟩ := bcell hb2
  have hz2 := hb2.size
  obtain ⟨gx, cx, rfl, hgx, hlx⟩ := hx.form (by omega)
  obtain ⟨gy, cy, rfl, hgy, hly⟩ := hy.form (by omega)
  simp at hz1
  have k0 : w2.cell? ⟨w.heap.size, 0, none⟩ = some (.int .i64 a1) := by rw [hc2 _ _ (by omega), hc1 _ _ (by simp; omega)]; simp [go_sem]
  have k3 : w2.cell? ⟨w.heap.size + 1 + 1 + 1, 0, none⟩ = some (.int .i64 r) := by rw [hc2 _ _ (by omega), hc1 _ _ (by simp)]; simp [go_sem]
  have kx : ∀ j, j < m + 1 → w2.cell? ⟨gx, j, none⟩ = some (.int .i64 (ch m j)) := fun j hj => by rw [← rowTo_get hj]; exact own_int hx hb2 hj
  have ky : ∀ j, j < o + 1 → w2.cell? ⟨gy, j, none⟩ = some (.int .i64 (ch o j)) := fun j hj => by rw [← rowTo_get hj]; exact own_int hy (Below.refl _ _) hj
  have kc : ∀ j, w2.cell? ⟨w.heap.size + 1 + 1, j, none⟩ = (#[Value.int .i64 0, .int .i64 0] : Array Value)[j]? := fun j => by rw [hc2 _ _ (by omega), hc1 _ _ (by simp)]; simp [go_sem]
  have kf : ∀ j, w2.frozen? ⟨w.heap.size + 1 + 1, j, none⟩ = false := fun j => by rw [hf2 _ _ (by omega), hf1 _ _ (by simp)]; simp [go_sem]
  have hs0 : w.heap.size < w2.heap.size := by omega
  have hs1 : w.heap.size + 1 < w2.heap.size := by omega
  have hs2 : w.heap.size + 1 + 1 < w2.heap.size := by omega
  have hs3 : w.heap.size + 1 + 1 + 1 < w2.heap.size := by omega
  have hgx2 : gx < w2.heap.size := by omega
  have hbel : Below w.heap.size w w2 := by
    refine Below.trans ?_ (hb2.mono (by omega))
    refine Below.trans ?_ (hb1.mono (by simp; omega))
    exact (below_drewN ((((Below.refl _ _).alloc (Nat.le_refl _) _).alloc (by simp) _).alloc (by simp; omega) _) _).alloc (by simp; omega) _
  clear hb1 hb2 hc1 hc2 hf1 hf2 hx hy hgx hgy hz1 hz2 hlx
  have HW : ∀ n, WMem m o r w2.heap.size (w2.heap.size + 1) (w.heap.size + 1 + 1 + 1) gx cx gy cy (((w2.alloc (.cells #[.slice (some ⟨gx, 0, none⟩) (m + 1) cx] 22)).alloc (.cells #[.slice (some ⟨gy, 0, none⟩) (o + 1) cy] 22)).drewN n) := fun n =>
    ⟨by simp [go_sem], by simp [go_sem], by simp [go_sem, hs3, k3, Nat.lt_succ_of_lt], fun j hj => by simp [go_sem, hgx2, kx j hj, Nat.lt_succ_of_lt], fun j hj => by simp [go_sem, hly, ky j hj, Nat.lt_succ_of_lt]⟩
  have HWh := hid HW; clear HW kx ky
  have Hkc := hid kc; have Hkf := hid kf; clear kc kf
  have hsz0 := sm_zero (f := wgt m o r) (r - o) (fun i hi => wgt_low (by omega))
  have hlo0 := sm_zero (f := low m o r (wgt m o r a1)) (r - o) (fun i hi => by have := low_le m o r (wgt m o r a1) i; have := wgt_low (m := m) (o := o) (r := r) (k := i) (by omega); omega)
  have Hsz0 := hid hsz0; have Hlo0 := hid hlo0; clear hsz0 hlo0
  go_wp2_with fail
  all_goals
    go_loopw [11, 12, 13] (fun num den i wr => ∃ k : Nat, r - o ≤ k ∧ k ≤ m + 1 ∧ k ≤ r + 1 ∧ i = .int .i64 k ∧ den = .int .i64 (sm (wgt m o r) k) ∧ num = .int .i64 (sm (low m o r (wgt m o r a1)) k) ∧
      ∃ n, wr = ((w2.alloc (.cells #[.slice (some ⟨gx, 0, none⟩) (m + 1) cx] 22)).alloc (.cells #[.slice (some ⟨gy, 0, none⟩) (o + 1) cy] 22)).drewN n) (fun _ _ i _ => m + 1 - (intOf i).toNat)
    case atStart => exact ⟨r - o, by omega, by omega, by omega, by go_num, by rw [Hsz0.out]; rfl, by rw [Hlo0.out]; rfl, 0, rfl⟩
    case round =>
      obtain ⟨k, hk1, hk2, hk3, rfl, rfl, rfl, n, rfl⟩ := hrel
      by_cases hk : k ≤ m ∧ k ≤ r
      · obtain ⟨hkm, hkr⟩ := hk
        have g1 := wgt_sum_le m o r (k + 1) (by omega)
        have g2 : sm (low m o r (wgt m o r a1)) k ≤ sm (wgt m o r) k := sm_le _ (fun _ _ => low_le _ _ _ _ _)
        have g3 : 2 ^ (m + o) ≤ 2 ^ 60 := Nat.pow_le_pow_right (by omega) hf
        simp only [sm] at g1
        by_cases hle : wgt m o r k ≤ wgt m o r a1
        all_goals
          go_wp2_with (go_at_call 78; refine (weight_any (HWh.out _) hf _ (by omega) (by omega) (by omega)).mono ?_; rintro e w' ⟨rfl, n', rfl⟩)
          go_roundw
          case rel => exact ⟨k + 1, by omega, by omega, by omega, by go_num, by simp only [sm]; go_num, by first | (simp only [sm]; rw [low, if_pos hle]; go_num) | (simp only [sm]; rw [low, if_neg hle]; go_num), _, rfl⟩
          case measure => simp [intOf]; omega
      · have e1 : sm (wgt m o r) k = fDen m o r := (sm_ext _ k _ hk2 (fun i h1 h2 => wgt_high (by omega))).symm
        have e2 : sm (low m o r (wgt m o r a1)) k = fNum m o r a1 := (sm_ext _ k _ hk2 (fun i h1 h2 => by have := low_le m o r (wgt m o r a1) i; have := wgt_high (m := m) (o := o) (r := r) (k := i) (by omega); omega)).symm
        rw [e1, e2]
        clear e1 e2
        have g1 := fDen_le m o r
        have g2 := fNum_le m o r a1
        have g3 : 2 ^ (m + o) ≤ 2 ^ 60 := Nat.pow_le_pow_right (by omega) hf
        have g4 := fNum_pos q4 q5 q6
        have g5 : 0 < Nat.gcd (fNum m o r a1) (fDen m o r) := Nat.gcd_pos_of_pos_left _ g4
        have g6 : (1 : Int) ≤ (Nat.gcd (fNum m o r a1) (fDen m o r) : Nat) := by omega
        have kc0 : w2.cell? ⟨w.heap.size + 1 + 1, 0, none⟩ = some (.int .i64 0) := Hkc.out 0
        have kc1 : w2.cell? ⟨w.heap.size + 1 + 1, 1, none⟩ = some (.int .i64 0) := Hkc.out 1
        have kf0 := Hkf.out 0
        have kf1 := Hkf.out 1
        have g7 : (0 : Int) ≤ (fNum m o r a1 : Nat) := by omega
        have g8 : (0 : Int) ≤ (fDen m o r : Nat) := by omega
        have g9 := wrap_div (fNum m o r a1) (Nat.gcd (fNum m o r a1) (fDen m o r)) (by omega)
        have g10 := wrap_div (fDen m o r) (Nat.gcd (fNum m o r a1) (fDen m o r)) (by omega)
        have hs4 : w.heap.size + 1 + 1 < w2.heap.size + 1 := by omega
        rcases Nat.lt_or_ge m r with hmr | hmr
        all_goals
          go_wp2_with (go_at_call 79; refine (divisor_any _ _ (by omega) (by omega) _).mono ?_; rintro e w' ⟨rfl, n', rfl⟩)
          go_region
          go_wp2
          refine bodyPost_ret (v := frac (fNum m o r a1) (fDen m o r)) ?_ rfl ⟨rfl, ?_⟩
          · simp [results, Try.results54, go_sem, frac, kc0, kc1, hs2, hs4]
          · repeat (first | exact hbel | refine Below.drew ?_ | refine below_drewN ?_ _ | refine Below.setCell ?_ (by first | omega | (simp; omega) | simp) _ | refine Below.alloc ?_ (by first | omega | (simp; omega) | simp) _)
end Go.Proofs.Ytoljnbbhoeloeaa
