/- WALK: the law CopiesAligns. -/
import Derived.Test.YtoljnbbhoeloeaaAlignW
import Derived.Test.YtoljnbbhoeloeaaWorksW
namespace Go.Proofs.Ytoljnbbhoeloeaa
open Go.RowKit
theorem alP_len (a b : List Int) : (alP a b).length ≤ 120 := by
  unfold alP
  split
  · rename_i h
    obtain ⟨h1, h2⟩ := two_ok h
    have := pairs_len a b
    omega
  · simp
set_option maxRecDepth 100000 in
set_option maxHeartbeats 1000000 in
theorem aligns_any (a b : List Int) (Aa Ab : Option Addr) (ca cb : Nat) (w : World) (ra : Rd w w.heap.size Aa a) (rb : Rd w w.heap.size Ab b) :
    Calls Try.prog 6 #[.slice Aa a.length ca, .slice Ab b.length cb] w fun e w' => e = .returned (.bool true) ∧ Below w.heap.size w w' := by
  have h1 := Align_any a b Aa Ab ca cb w ra rb
  have h2 := fun W (r1 : Rd W W.heap.size Aa a) (r2 : Rd W W.heap.size Ab b) => ref_Align_any a b Aa Ab ca cb W r1 r2
  have hl := alP_len a b
  generalize alC a b = c at h1 h2
  generalize linesErr [a, b] = er at h1 h2
  generalize alP a b = P at h1 h2 hl
  obtain ⟨n, hn⟩ : ∃ n, n = P.length := ⟨_, rfl⟩
  rw [← hn] at hl
  have Hn := hid hn; clear hn
  have H1 := hid h1; have H2 := hid h2; have Ra := hid ra; have Rb := hid rb; clear h1 h2 ra rb
  go_enter Try.func6, Try.ntmps6
  go_wp2_with fail
  refine H1.out.mono ?_
  rintro e w1 ⟨v1, rfl, hown1, hb1⟩
  rw [← Hn.out] at hown1
  obtain ⟨A1, c1, rfl⟩ := own_slice hown1
  have Hown1 := hid hown1; have Hb1 := hid hb1; clear hown1 hb1
  go_wp2_with fail
  refine (H2.out w1 ((Ra.out.below Hb1.out).more Hb1.out.size) ((Rb.out.below Hb1.out).more Hb1.out.size)).mono ?_
  rintro e w2 ⟨v2, rfl, hown2, hb2⟩
  rw [← Hn.out] at hown2
  obtain ⟨A2, c2, rfl⟩ := own_slice hown2
  have Hown2 := hid hown2; have Hb2 := hid hb2; clear hown2 hb2
  go_wp2_with fail
  go_loopw [11] (fun i wr => ∃ k : Nat, k ≤ n ∧ i = .int .i64 k ∧ ∃ q, wr = w2.drewN q) (fun i _ => n - (intOf i).toNat)
  case atStart => exact ⟨0, by omega, rfl, 0, rfl⟩
  case round =>
    obtain ⟨k, hk, rfl, q, rfl⟩ := hrel
    by_cases hkn : k < n
    · obtain ⟨g1, d1, hv1, hg1, hg1'⟩ := Hown1.out.form (by omega)
      obtain ⟨g2, d2, hv2, hg2, hg2'⟩ := Hown2.out.form (by omega)
      injection hv1 with hA1 _ hc1
      injection hv2 with hA2 _ hc2
      subst hA1; subst hA2; subst hc1; subst hc2
      obtain ⟨f1, f2⟩ := flatP_get P k (by rw [← Hn.out]; exact hkn)
      generalize P[k].1 = x at f1
      generalize P[k].2 = y at f2
      have c1 : w2.cell? ⟨g1, k * 2, none⟩ = some (.int .i64 x) := (Hb2.out.cell (p := ⟨g1, k * 2, none⟩) hg1').trans ((Hown1.out.cellAt (k * 2) (by omega)).trans f1)
      have c2 : w2.cell? ⟨g1, k * 2 + 1, none⟩ = some (.int .i64 y) := (Hb2.out.cell (p := ⟨g1, k * 2 + 1, none⟩) hg1').trans ((Hown1.out.cellAt (k * 2 + 1) (by omega)).trans f2)
      have c3 : w2.cell? ⟨g2, k * 2, none⟩ = some (.int .i64 x) := (Hown2.out.cellAt (k * 2) (by omega)).trans f1
      have c4 : w2.cell? ⟨g2, k * 2 + 1, none⟩ = some (.int .i64 y) := (Hown2.out.cellAt (k * 2 + 1) (by omega)).trans f2
      clear f1 f2
      go_wp2_with fail
      go_quiet (fail)
      go_wp2_with fail
      go_roundw
      case rel => exact ⟨k + 1, by omega, by go_num, _, by first | rfl | exact World.drewN_drewN _ _ _⟩
      case measure => simp [intOf]; omega
    · obtain rfl : k = n := by omega
      go_wp2_with fail
      refine (works_any _).mono ?_
      rintro e w3 ⟨rfl, hb3⟩
      have Hb3 := hid hb3; clear hb3
      go_wp2_with fail
      go_ret
      have hB : Below w.heap.size w w2 := Hb1.out.trans (Hb2.out.mono Hb1.out.size)
      exact ⟨rfl, (below_drewN hB _).trans (Hb3.out.mono (by have := hB.size; simpa using this))⟩
end Go.Proofs.Ytoljnbbhoeloeaa
