/- WALK: the reference's Fisher. -/
import Derived.Test.YtoljnbbhoeloeaaChoose
import Derived.Test.YtoljnbbhoeloeaaFisherB
namespace Go.Proofs.Ytoljnbbhoeloeaa
open Go.RowKit
theorem choose_at {x y : Int} (n m : Nat) (hx : x = n) (hy : y = m) (hn : n ≤ 60) (hm : m ≤ n) (w : World) :
    Calls Try.prog 56 #[.int .i64 x, .int .i64 y] w fun e w' => e = .returned (.int .i64 (ch n m)) ∧ Below w.heap.size w w' := by
  subst hx; subst hy; exact choose_any n m hn hm w
set_option maxRecDepth 100000 in
set_option maxHeartbeats 1000000 in
theorem ref_fisher_yes (a1 a2 b1 b2 m o r : Nat) (hm : a1 + a2 = m) (ho : b1 + b2 = o) (hr : a1 + b1 = r) (hf : m + o ≤ 60) (w : World) :
    Calls Try.prog 22 #[.agg #[.int .i64 a1, .int .i64 a2], .agg #[.int .i64 b1, .int .i64 b2]] w fun e w' =>
      e = .returned (.tuple #[frac (fNum m o r a1) (fDen m o r), .int .i64 0]) ∧ Below w.heap.size w w' := by
  have q1 : IntKind.i64.wrap ((a1 : Int) + a2) = m := (IntWalk.i64_in _ (by omega)).trans (by omega)
  have q2 : (m : Int) + b1 + b2 = (m + o : Nat) := by omega
  have q3 : IntKind.i64.wrap ((a1 : Int) + b1) = r := (IntWalk.i64_in _ (by omega)).trans (by omega)
  have q4 : a1 ≤ m ∧ a1 ≤ r ∧ r ≤ a1 + o := by omega
  have q7 : fairB a1 a2 b1 b2 = true := fairB_true ⟨by omega, by omega, by omega, by omega, by omega⟩
  have q8 : b1 ≤ o ∧ b2 ≤ o ∧ r = a1 + b1 := by omega
  clear hm ho hr
  obtain ⟨q8, q9, hr⟩ := q8
  have q10 : wgt m o r a1 = ch m a1 * ch o b1 := by rw [wgt_of_le (by omega), hr, Nat.add_sub_cancel_left]
  have q11 : IntKind.i64.wrap ((ch m a1 : Int) * ch o b1) = (wgt m o r a1 : Int) := by
    have h1 := wgt_le m o r a1
    have h2 := Nat.mul_le_mul_right (2 ^ o) (ch_le m a1)
    rw [← Nat.pow_add] at h2
    have h3 : 2 ^ (m + o) ≤ 2 ^ 60 := Nat.pow_le_pow_right (by omega) hf
    rw [q10] at h1
    rw [q10, Int.natCast_mul]
    exact IntWalk.i64_in _ (by rw [← Int.natCast_mul]; omega)
  have q12 : IntKind.i64.wrap ((r : Int) - a1) = b1 := (IntWalk.i64_in _ (by omega)).trans (by omega)
  have q14 : (b1 : Int) ≤ 60 := by omega
  have q15 : (b2 : Int) ≤ 60 := by omega
  clear hr q10
  obtain ⟨n, hn⟩ : ∃ n, n = m + o := ⟨_, rfl⟩
  rw [← hn] at q2
  have q13 : IntKind.i64.wrap ((n : Int) - m) = o := (IntWalk.i64_in _ (by omega)).trans (by omega)
  have q16 : (n : Int) - m = o := by omega
  have Hn := hid hn; clear hn
  have Q16 := hid q16; clear q16
  obtain ⟨q4, q5, q6⟩ := q4
  go_enter Try.func22, Try.ntmps22
  go_wp2_with fail
  refine (good_any _ _ _ _ _).mono ?_
  rintro e w1 ⟨rfl, hb1⟩
  obtain ⟨hc1, hf1⟩ := bcell hb1
  have hz1 := hb1.size
  simp at hz1
  have k0 : w1.cell? ⟨w.heap.size, 0, none⟩ = some (.int .i64 a1) := by rw [hc1 _ _ (by simp; omega)]; simp [go_sem]
  have k1 : w1.cell? ⟨w.heap.size, 1, none⟩ = some (.int .i64 a2) := by rw [hc1 _ _ (by simp; omega)]; simp [go_sem]
  have k2 : w1.cell? ⟨w.heap.size + 1, 0, none⟩ = some (.int .i64 b1) := by rw [hc1 _ _ (by simp)]; simp [go_sem]
  have k3 : w1.cell? ⟨w.heap.size + 1, 1, none⟩ = some (.int .i64 b2) := by rw [hc1 _ _ (by simp)]; simp [go_sem]
  have kc : ∀ j, w1.cell? ⟨w.heap.size + 1 + 1, j, none⟩ = (#[Value.int .i64 0, .int .i64 0] : Array Value)[j]? := fun j => by rw [hc1 _ _ (by simp)]; simp [go_sem]
  have kf : ∀ j, w1.frozen? ⟨w.heap.size + 1 + 1, j, none⟩ = false := fun j => by rw [hf1 _ _ (by simp)]; simp [go_sem]
  have hs0 : w.heap.size < w1.heap.size := by omega
  have hs1 : w.heap.size + 1 < w1.heap.size := by omega
  have hs2 : w.heap.size + 1 + 1 < w1.heap.size := by omega
  have hbel : Below w.heap.size w w1 := by
    refine Below.trans ?_ (hb1.mono (by simp; omega))
    exact (((Below.refl _ _).alloc (Nat.le_refl _) _).alloc (by simp) _).alloc (by simp; omega) _
  clear hb1 hc1 hf1 hz1
  go_wp2_with fail
  go_quiet (fail)
  go_wp2_with fail
  clear q1 q2 q3 k1 k2 k3
  have hB : Below w1.heap.size w1 w1 := Below.refl _ _
  go_region_held3 (fun w' => w'.cell? ⟨w.heap.size, 0, none⟩ = some (.int .i64 a1)) (first | exact k0 | exact kk)
    (first | (go_at_call 56; (with_reducible refine (choose_at _ _ rfl rfl (by omega) (by omega) _).mono ?_); rintro e w' ⟨rfl, hb⟩; have hB : Below w1.heap.size w1 w' := Below.trans (by first | exact hB | exact below_drewN (Below.refl _ _) _) (hb.mono (by first | (simp; done) | (have := hB.size; simp; omega) | exact hB.size)); have kk : w'.cell? ⟨w.heap.size, 0, none⟩ = some (.int .i64 a1) := (hB.cell (p := ⟨w.heap.size, 0, none⟩) hs0).trans k0))
  all_goals
    obtain ⟨w2, hw2⟩ : ∃ w2 : World, w2 = w1 := ⟨_, rfl⟩
    clear w2 hw2
    clear q11 q12 q13 k0 kk
    have q16 := Q16.out
    have hsz0 := sm_zero (f := wgt m o r) (r - o) (fun i hi => wgt_low (by omega))
    have hlo0 := sm_zero (f := low m o r (wgt m o r a1)) (r - o) (fun i hi => by have := low_le m o r (wgt m o r a1) i; have := wgt_low (m := m) (o := o) (r := r) (k := i) (by omega); omega)
    have Hsz0 := hid hsz0; have Hlo0 := hid hlo0; clear hsz0 hlo0
    have Hkc := hid kc; have Hkf := hid kf; clear kc kf
    go_wp2_with fail
    all_goals
      go_loopw [10, 11, 12] (fun num den i wr => ∃ k : Nat, r - o ≤ k ∧ k ≤ m + 1 ∧ k ≤ r + 1 ∧ i = .int .i64 k ∧ den = .int .i64 (sm (wgt m o r) k) ∧ num = .int .i64 (sm (low m o r (wgt m o r a1)) k) ∧ Below w1.heap.size w1 wr) (fun _ _ i _ => m + 1 - (intOf i).toNat)
      case atStart => exact ⟨r - o, by omega, by omega, by omega, by go_num, by rw [Hsz0.out]; rfl, by rw [Hlo0.out]; rfl, by first | exact hB | exact hB.drew⟩
      case round =>
        obtain ⟨k, hk1, hk2, hk3, rfl, rfl, rfl, hbr⟩ := hrel
        by_cases hk : k ≤ m ∧ k ≤ r
        · obtain ⟨hkm, hkr⟩ := hk
          have g1 := wgt_sum_le m o r (k + 1) (by omega)
          have g2 : sm (low m o r (wgt m o r a1)) k ≤ sm (wgt m o r) k := sm_le _ (fun _ _ => low_le _ _ _ _ _)
          have g3 : 2 ^ (m + o) ≤ 2 ^ 60 := Nat.pow_le_pow_right (by omega) hf
          simp only [sm] at g1
          have g4 : wrap64 ((ch m k : Int) * ch o (r - k)) = (wgt m o r k : Int) := by rw [wgt_of_le hkr, Int.natCast_mul]; rw [wgt_of_le hkr] at g1; exact IntWalk.wrap64_in _ (by rw [← Int.natCast_mul]; omega)
          obtain ⟨T, hT⟩ : ∃ T, T = 2 ^ (m + o) := ⟨_, rfl⟩
          rw [← hT] at g1 g3
          clear hT
          have g5 : sm (wgt m o r) k ≤ 2 ^ 60 := by omega
          rcases Nat.lt_or_ge m r with hmr | hmr <;> by_cases hle : wgt m o r k ≤ wgt m o r a1
          all_goals
            go_wp2_with fail
            ((with_reducible refine (choose_at m k rfl rfl (by omega) (by omega) _).mono ?_); rintro e w4 ⟨rfl, hb4⟩)
            go_wp2_with fail
            ((with_reducible refine (choose_at o (r - k) rfl (by omega) (by omega) (by omega) _).mono ?_); rintro e w5 ⟨rfl, hb5⟩)
            go_wp2_with fail
            go_roundw
            case rel => exact ⟨k + 1, by omega, by omega, by omega, by go_num, by simp only [sm]; go_num, by first | (simp only [sm]; rw [low, if_pos hle]; go_num) | (simp only [sm]; rw [low, if_neg hle]; go_num), hbr.trans ((hb4.mono hbr.size).trans (hb5.mono (Nat.le_trans hbr.size hb4.size)))⟩
            case measure => simp [intOf]; omega
        · have e1 : sm (wgt m o r) k = fDen m o r := (sm_ext _ k _ hk2 (fun i h1 h2 => wgt_high (by omega))).symm
          have e2 : sm (low m o r (wgt m o r a1)) k = fNum m o r a1 := (sm_ext _ k _ hk2 (fun i h1 h2 => by have := low_le m o r (wgt m o r a1) i; have := wgt_high (m := m) (o := o) (r := r) (k := i) (by omega); omega)).symm
          rw [e1, e2]
          clear e1 e2
          have g1 := fDen_le m o r
          have g2 := fNum_le m o r a1
          have g3 : 2 ^ (m + o) ≤ 2 ^ 60 := Nat.pow_le_pow_right (by omega) hf
          have g4 := fNum_pos q4 q5 q6
          have g5 : 0 < Nat.gcd (fNum m o r a1) (fDen m o r) := Nat.gcd_pos_of_pos_left _ g4
          have g6 : (1 : Int) ≤ (Nat.gcd (fNum m o r a1) (fDen m o r) : Nat) := by omega
          have hz := hbr.size
          have kc0 : wr.cell? ⟨w.heap.size + 1 + 1, 0, none⟩ = some (.int .i64 0) := (hbr.cell (p := ⟨w.heap.size + 1 + 1, 0, none⟩) hs2).trans (Hkc.out 0)
          have kc1 : wr.cell? ⟨w.heap.size + 1 + 1, 1, none⟩ = some (.int .i64 0) := (hbr.cell (p := ⟨w.heap.size + 1 + 1, 1, none⟩) hs2).trans (Hkc.out 1)
          have kf0 : wr.frozen? ⟨w.heap.size + 1 + 1, 0, none⟩ = false := (hbr.frozen (p := ⟨w.heap.size + 1 + 1, 0, none⟩) hs2).trans (Hkf.out 0)
          have kf1 : wr.frozen? ⟨w.heap.size + 1 + 1, 1, none⟩ = false := (hbr.frozen (p := ⟨w.heap.size + 1 + 1, 1, none⟩) hs2).trans (Hkf.out 1)
          have g7 : (0 : Int) ≤ (fNum m o r a1 : Nat) := by omega
          have g8 : (0 : Int) ≤ (fDen m o r : Nat) := by omega
          have g9 := wrap_div (fNum m o r a1) (Nat.gcd (fNum m o r a1) (fDen m o r)) (by omega)
          have g10 := wrap_div (fDen m o r) (Nat.gcd (fNum m o r a1) (fDen m o r)) (by omega)
          have hbel2 : Below w.heap.size w wr := hbel.trans (hbr.mono (by omega))
          rcases Nat.lt_or_ge m r with hmr | hmr
          all_goals
            go_wp2_with (go_at_call 57; refine (gcd_any _ _ (by omega) (by omega) _).mono ?_; rintro e w' ⟨rfl, n', rfl⟩)
            go_region
            go_wp2
            refine bodyPost_ret (v := .tuple #[frac (fNum m o r a1) (fDen m o r), .int .i64 0]) ?_ rfl ⟨rfl, ?_⟩
            · simp [results, Try.results22, go_sem, frac, kc0, kc1]
            · repeat (first | exact hbel2 | refine Below.drew ?_ | refine below_drewN ?_ _ | refine Below.setCell ?_ (by first | omega | (simp; omega) | simp) _ | refine Below.alloc ?_ (by first | omega | (simp; omega) | simp) _)
end Go.Proofs.Ytoljnbbhoeloeaa
