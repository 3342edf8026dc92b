/- WALK: copies.Fisher and ostraconref09.Fisher at any two tallies. -/
import Derived.Test.YtoljnbbhoeloeaaRefFisher
namespace Go.Proofs.Ytoljnbbhoeloeaa
open Go.RowKit
/-- Numerator, denominator and error of the test of two tallies. -/
def fNumI (a1 a2 b1 b2 : Int) : Int := if Fair a1 a2 b1 b2 then ((fNum (a1 + a2).toNat (b1 + b2).toNat (a1 + b1).toNat a1.toNat / Nat.gcd (fNum (a1 + a2).toNat (b1 + b2).toNat (a1 + b1).toNat a1.toNat) (fDen (a1 + a2).toNat (b1 + b2).toNat (a1 + b1).toNat) : Nat) : Int) else 0
def fDenI (a1 a2 b1 b2 : Int) : Int := if Fair a1 a2 b1 b2 then ((fDen (a1 + a2).toNat (b1 + b2).toNat (a1 + b1).toNat / Nat.gcd (fNum (a1 + a2).toNat (b1 + b2).toNat (a1 + b1).toNat a1.toNat) (fDen (a1 + a2).toNat (b1 + b2).toNat (a1 + b1).toNat) : Nat) : Int) else 0
def fErr (a1 a2 b1 b2 : Int) : Int := if Fair a1 a2 b1 b2 then 0 else 80
def fRes (a1 a2 b1 b2 : Int) : Value := .tuple #[.agg #[.int .i64 (fNumI a1 a2 b1 b2), .int .i64 (fDenI a1 a2 b1 b2)], .int .i64 (fErr a1 a2 b1 b2)]
theorem fair_nat {a1 a2 b1 b2 : Int} (h : Fair a1 a2 b1 b2) : ∃ x1 x2 y1 y2 m o r : Nat, a1 = x1 ∧ a2 = x2 ∧ b1 = y1 ∧ b2 = y2 ∧ x1 + x2 = m ∧ y1 + y2 = o ∧ x1 + y1 = r ∧ m + o ≤ 60 := by
  obtain ⟨h1, h2, h3, h4, h5⟩ := h
  exact ⟨a1.toNat, a2.toNat, b1.toNat, b2.toNat, _, _, _, by omega, by omega, by omega, by omega, rfl, rfl, rfl, by omega⟩
theorem fRes_yes {a1 a2 b1 b2 m o r : Nat} (hm : a1 + a2 = m) (ho : b1 + b2 = o) (hr : a1 + b1 = r) (hf : m + o ≤ 60) : fRes a1 a2 b1 b2 = .tuple #[frac (fNum m o r a1) (fDen m o r), .int .i64 0] := by
  have hF : Fair (a1 : Int) a2 b1 b2 := ⟨by omega, by omega, by omega, by omega, by omega⟩
  have e1 : ((a1 : Int) + a2).toNat = m := by omega
  have e2 : ((b1 : Int) + b2).toNat = o := by omega
  have e3 : ((a1 : Int) + b1).toNat = r := by omega
  have e4 : ((a1 : Int)).toNat = a1 := by omega
  unfold fRes fNumI fDenI fErr
  rw [if_pos hF, if_pos hF, if_pos hF, e1, e2, e3, e4]
  rfl
theorem fRes_no {a1 a2 b1 b2 : Int} (h : ¬ Fair a1 a2 b1 b2) : fRes a1 a2 b1 b2 = .tuple #[.agg #[.int .i64 0, .int .i64 0], .int .i64 80] := by
  unfold fRes fNumI fDenI fErr
  rw [if_neg h, if_neg h, if_neg h]
set_option maxRecDepth 100000 in
set_option maxHeartbeats 1000000 in
theorem fisher_call (a1 a2 b1 b2 : Int) (w : World) :
    Calls Try.prog 21 #[.agg #[.int .i64 a1, .int .i64 a2], .agg #[.int .i64 b1, .int .i64 b2]] w fun e w' => e = .returned (fRes a1 a2 b1 b2) ∧ Below w.heap.size w w' := by
  by_cases hF : Fair a1 a2 b1 b2
  · have q7 := fairB_true hF
    obtain ⟨x1, x2, y1, y2, m, o, r, rfl, rfl, rfl, rfl, hm, ho, hr, hf⟩ := fair_nat hF
    rw [fRes_yes hm ho hr hf]
    have HF := hid hF; clear hF
    have Hm := hid hm; have Ho := hid ho; have Hr := hid hr; clear hm ho hr
    go_enter Try.func21, Try.ntmps21
    go_wp2_with fail
    refine (fair_any _ _ _ _ _).mono ?_
    rintro e w1 ⟨rfl, hb1⟩
    obtain ⟨hc1, hf1⟩ := bcell hb1
    have hz1 := hb1.size
    simp at hz1
    have k0 : w1.cell? ⟨w.heap.size, 0, none⟩ = some (.int .i64 x1) := by rw [hc1 _ _ (by simp; omega)]; simp [go_sem]
    have k1 : w1.cell? ⟨w.heap.size, 1, none⟩ = some (.int .i64 x2) := by rw [hc1 _ _ (by simp; omega)]; simp [go_sem]
    have k2 : w1.cell? ⟨w.heap.size + 1, 0, none⟩ = some (.int .i64 y1) := by rw [hc1 _ _ (by simp)]; simp [go_sem]
    have k3 : w1.cell? ⟨w.heap.size + 1, 1, none⟩ = some (.int .i64 y2) := by rw [hc1 _ _ (by simp)]; simp [go_sem]
    have kc0 : w1.cell? ⟨w.heap.size + 1 + 1, 0, none⟩ = some (.int .i64 0) := by rw [hc1 _ _ (by simp)]; simp [go_sem]
    have kc1 : w1.cell? ⟨w.heap.size + 1 + 1, 1, none⟩ = some (.int .i64 0) := by rw [hc1 _ _ (by simp)]; simp [go_sem]
    have kf0 : w1.frozen? ⟨w.heap.size + 1 + 1, 0, none⟩ = false := by rw [hf1 _ _ (by simp)]; simp [go_sem]
    have kf1 : w1.frozen? ⟨w.heap.size + 1 + 1, 1, none⟩ = false := by rw [hf1 _ _ (by simp)]; simp [go_sem]
    have hs2 : w.heap.size + 1 + 1 < w1.heap.size := by omega
    have hbel : Below w.heap.size w w1 := by
      refine Below.trans ?_ (hb1.mono (by simp; omega))
      exact (((Below.refl _ _).alloc (Nat.le_refl _) _).alloc (by simp) _).alloc (by simp; omega) _
    clear hb1 hc1 hf1 hz1
    go_wp2_with fail
    refine (fisher_any x1 x2 y1 y2 m o r Hm.out Ho.out Hr.out hf _).mono ?_
    rintro e w2 ⟨rfl, hb2⟩
    have hz2 := hb2.size
    have kc0 := (hb2.cell (p := ⟨w.heap.size + 1 + 1, 0, none⟩) hs2).trans kc0
    have kc1 := (hb2.cell (p := ⟨w.heap.size + 1 + 1, 1, none⟩) hs2).trans kc1
    have kf0 := (hb2.frozen (p := ⟨w.heap.size + 1 + 1, 0, none⟩) hs2).trans kf0
    have kf1 := (hb2.frozen (p := ⟨w.heap.size + 1 + 1, 1, none⟩) hs2).trans kf1
    have hbel2 : Below w.heap.size w w2 := hbel.trans (hb2.mono (by omega))
    clear hb2
    have hs3 : w.heap.size + 1 + 1 < w2.heap.size := by omega
    unfold frac
    go_wp2_with fail
    refine bodyPost_ret (v := .tuple #[frac (fNum m o r x1) (fDen m o r), .int .i64 0]) ?_ rfl ⟨rfl, ?_⟩
    · simp [results, Try.results21, go_sem, frac, kc0, kc1]
    · repeat (first | exact hbel2 | refine Below.setCell ?_ (by first | omega | (simp; omega) | simp) _)
  · have q7 := fairB_false hF
    rw [fRes_no hF]
    clear hF
    go_enter Try.func21, Try.ntmps21
    go_wp2_with fail
    refine (fair_any _ _ _ _ _).mono ?_
    rintro e w1 ⟨rfl, hb1⟩
    obtain ⟨hc1, hf1⟩ := bcell hb1
    have hz1 := hb1.size
    simp at hz1
    have kc0 : w1.cell? ⟨w.heap.size + 1 + 1, 0, none⟩ = some (.int .i64 0) := by rw [hc1 _ _ (by simp)]; simp [go_sem]
    have kc1 : w1.cell? ⟨w.heap.size + 1 + 1, 1, none⟩ = some (.int .i64 0) := by rw [hc1 _ _ (by simp)]; simp [go_sem]
    have kf0 : w1.frozen? ⟨w.heap.size + 1 + 1, 0, none⟩ = false := by rw [hf1 _ _ (by simp)]; simp [go_sem]
    have kf1 : w1.frozen? ⟨w.heap.size + 1 + 1, 1, none⟩ = false := by rw [hf1 _ _ (by simp)]; simp [go_sem]
    have hs2 : w.heap.size + 1 + 1 < w1.heap.size := by omega
    have hbel : Below w.heap.size w w1 := by
      refine Below.trans ?_ (hb1.mono (by simp; omega))
      exact (((Below.refl _ _).alloc (Nat.le_refl _) _).alloc (by simp) _).alloc (by simp; omega) _
    clear hb1 hc1 hf1 hz1
    go_wp2_with fail
    refine bodyPost_ret (v := .tuple #[.agg #[.int .i64 0, .int .i64 0], .int .i64 80]) ?_ rfl ⟨rfl, ?_⟩
    · simp [results, Try.results21, go_sem, kc0, kc1]
    · repeat (first | exact hbel | refine Below.setCell ?_ (by first | omega | (simp; omega) | simp) _)
set_option maxRecDepth 100000 in
set_option maxHeartbeats 1000000 in
theorem ref_fisher_call (a1 a2 b1 b2 : Int) (w : World) :
    Calls Try.prog 22 #[.agg #[.int .i64 a1, .int .i64 a2], .agg #[.int .i64 b1, .int .i64 b2]] w fun e w' => e = .returned (fRes a1 a2 b1 b2) ∧ Below w.heap.size w w' := by
  by_cases hF : Fair a1 a2 b1 b2
  · obtain ⟨x1, x2, y1, y2, m, o, r, rfl, rfl, rfl, rfl, hm, ho, hr, hf⟩ := fair_nat hF
    rw [fRes_yes hm ho hr hf]
    exact ref_fisher_yes x1 x2 y1 y2 m o r hm ho hr hf w
  · have q7 := fairB_false hF
    rw [fRes_no hF]
    clear hF
    go_enter Try.func22, Try.ntmps22
    go_wp2_with fail
    refine (good_any _ _ _ _ _).mono ?_
    rintro e w1 ⟨rfl, hb1⟩
    obtain ⟨hc1, hf1⟩ := bcell hb1
    have hz1 := hb1.size
    simp at hz1
    have kc0 : w1.cell? ⟨w.heap.size + 1 + 1, 0, none⟩ = some (.int .i64 0) := by rw [hc1 _ _ (by simp)]; simp [go_sem]
    have kc1 : w1.cell? ⟨w.heap.size + 1 + 1, 1, none⟩ = some (.int .i64 0) := by rw [hc1 _ _ (by simp)]; simp [go_sem]
    have kf0 : w1.frozen? ⟨w.heap.size + 1 + 1, 0, none⟩ = false := by rw [hf1 _ _ (by simp)]; simp [go_sem]
    have kf1 : w1.frozen? ⟨w.heap.size + 1 + 1, 1, none⟩ = false := by rw [hf1 _ _ (by simp)]; simp [go_sem]
    have hs2 : w.heap.size + 1 + 1 < w1.heap.size := by omega
    have hbel : Below w.heap.size w w1 := by
      refine Below.trans ?_ (hb1.mono (by simp; omega))
      exact (((Below.refl _ _).alloc (Nat.le_refl _) _).alloc (by simp) _).alloc (by simp; omega) _
    clear hb1 hc1 hf1 hz1
    go_wp2_with fail
    refine bodyPost_ret (v := .tuple #[.agg #[.int .i64 0, .int .i64 0], .int .i64 80]) ?_ rfl ⟨rfl, ?_⟩
    · simp [results, Try.results22, go_sem, kc0, kc1]
    · repeat (first | exact hbel | refine Below.setCell ?_ (by first | omega | (simp; omega) | simp) _)
end Go.Proofs.Ytoljnbbhoeloeaa
