/- ostraconref02.Alike. -/
import Derived.Test.YtddbnggficlcfaaAlike
import Derived.Test.YtddbnggficlcfaaRingsR
import Derived.Test.YtddbnggficlcfaaSameM
namespace Go.Proofs.Ytddbnggficlcfaa
open Go.RowKit Go.Shelf
theorem mks_out' {E : Int} {L : List Mk} {W : World} {e : Ending} {w' : World} (hp : MksPost E L W e w') : ∃ (A' : Option Addr) (c' : Nat), e = .returned (.tuple #[.slice A' L.length c', .int .i64 E]) ∧ Mks w' w'.heap.size A' L ∧ Below W.heap.size W w' := by
  obtain ⟨v, rfl, ho, hb⟩ := hp
  obtain ⟨A', c', rfl⟩ := own_slice ho
  exact ⟨A', c', rfl, Reads.of_own ho, hb⟩
theorem prs_out' {T : TypeId} {E : Int} {L : List (Int × Int)} {W : World} {e : Ending} {w' : World} (hp : RngPost T E L W e w') : ∃ (A' : Option Addr) (c' : Nat), e = .returned (.tuple #[.slice A' L.length c', .int .i64 E]) ∧ Prs w' w'.heap.size A' L ∧ Below W.heap.size W w' := by
  obtain ⟨v, rfl, ho, hb⟩ := hp
  obtain ⟨A', c', rfl⟩ := own_slice ho
  exact ⟨A', c', rfl, Reads.of_own ho, hb⟩
set_option maxRecDepth 100000 in
set_option maxHeartbeats 8000000 in
theorem refAlike_any (P : Int) (ss : List Sg) (a b : List Nd) (hN : ss.length ≤ 1000000) (hv : ∀ s ∈ ss, s.vals.length ≤ 1000000) (ha : a.length ≤ 1000000) (hb : b.length ≤ 1000000) (A Aa Ab : Option Addr) (c ca cb : Nat) (w : World) (rs : Sgs w w.heap.size A ss) (ra : Nds w w.heap.size Aa a) (rb : Nds w w.heap.size Ab b) :
    Calls Try.prog 41 #[.agg #[.int .i64 P, .slice A ss.length c], .agg #[.slice Aa a.length ca], .agg #[.slice Ab b.length cb]] w (AlkPost (alkE P ss a b) (alkR a b) w) := by
  obtain ⟨w1, hw1⟩ : ∃ w1, w1 = ((w.alloc (.cells #[.int .i64 P, .slice A ss.length c] 24)).alloc (.cells #[.slice Aa a.length ca] 27)).alloc (.cells #[.slice Ab b.length cb] 27) := ⟨_, rfl⟩
  have hb1 : Below w.heap.size w w1 := by rw [hw1]; exact (((Below.refl _ _).alloc (Nat.le_refl _) _).alloc (by simp) _).alloc (by simp; omega) _
  have hz1 : w1.heap.size = w.heap.size + 3 := by rw [hw1]; simp
  have c0 : w1.cell? ⟨w.heap.size, 0, none⟩ = some (.int .i64 P) := by rw [hw1]; exact cell_old (cell_old (cell_here rfl rfl))
  have c1 : w1.cell? ⟨w.heap.size, 1, none⟩ = some (.slice A ss.length c) := by rw [hw1]; exact cell_old (cell_old (cell_here rfl rfl))
  have c3 : w1.cell? ⟨w.heap.size + 1, 0, none⟩ = some (.slice Aa a.length ca) := by rw [hw1]; exact cell_old (cell_here (by simp) rfl)
  have c4 : w1.cell? ⟨w.heap.size + 2, 0, none⟩ = some (.slice Ab b.length cb) := by rw [hw1]; exact cell_here (by simp) rfl
  have HLA := hid fun (W : World) (h : Below w.heap.size w W) => (refLine_any P ss a hN hv ha A Aa c ca W ((rs.below h).more h.size) ((ra.below h).more h.size)).mono fun e w' hx => mks_out' hx
  have HLB := hid fun (W : World) (h : Below w.heap.size w W) => (refLine_any P ss b hN hv hb A Ab c cb W ((rs.below h).more h.size) ((rb.below h).more h.size)).mono fun e w' hx => mks_out' hx
  have HRA := hid fun (W : World) (h : Below w.heap.size w W) => (refRings_any P ss a hN hv ha A Aa c ca W ((rs.below h).more h.size) ((ra.below h).more h.size)).mono fun e w' hx => prs_out' hx
  have HRB := hid fun (W : World) (h : Below w.heap.size w W) => (refRings_any P ss b hN hv hb A Ab c cb W ((rs.below h).more h.size) ((rb.below h).more h.size)).mono fun e w' hx => prs_out' hx
  have m1 := alkE_a (P := P) (ss := ss) (a := a) (b := b); have m2 := alkE_b (P := P) (ss := ss) (a := a) (b := b)
  have hAR : chkE P ss a = 0 → chkE P ss b = 0 → (alkR a b ↔ linL P ss a = linL P ss b ∧ rngL P ss a = rngL P ss b) := fun h1 h2 => by
    rw [linL_ok h1, linL_ok h2, rngL_ok h1, rngL_ok h2]; exact Iff.rfl
  have l1 : (linL P ss a).length ≤ 1000000 := by
    unfold linL
    split
    · exact Nat.le_trans (marks_le a) ha
    · simp
  have l2 : (linL P ss b).length ≤ 1000000 := by
    unfold linL
    split
    · exact Nat.le_trans (marks_le b) hb
    · simp
  have l3 : (rngL P ss a).length ≤ 1000000 := by
    unfold rngL
    split
    · exact Nat.le_trans (spans_le a) ha
    · simp
  have l4 : (rngL P ss b).length ≤ 1000000 := by
    unfold rngL
    split
    · exact Nat.le_trans (spans_le b) hb
    · simp
  generalize linL P ss a = MA at HLA l1 hAR
  generalize linL P ss b = MB at HLB l2 hAR
  generalize rngL P ss a = SA at HRA l3 hAR
  generalize rngL P ss b = SB at HRB l4 hAR
  have HMM := hid fun (W : World) (A1 A2 : Option Addr) (c1 c2 : Nat) (r1 : Mks W W.heap.size A1 MA) (r2 : Mks W W.heap.size A2 MB) => sameMarks_any MA MB A1 A2 c1 c2 l1 l2 W r1 r2
  have HSS := hid fun (W : World) (A1 A2 : Option Addr) (c1 c2 : Nat) (r1 : Prs W W.heap.size A1 SA) (r2 : Prs W W.heap.size A2 SB) => sameRings_any SA SB A1 A2 c1 c2 l3 l4 W r1 r2
  generalize alkE P ss a b = E at m1 m2 ⊢
  generalize alkR a b = RR at hAR ⊢
  generalize chkE P ss a = CA at HLA HRA m1 m2 hAR
  generalize chkE P ss b = CB at HLB HRB m1 m2 hAR
  obtain ⟨k1, hk1⟩ : ∃ k, k = MA.length := ⟨_, rfl⟩
  obtain ⟨k2, hk2⟩ : ∃ k, k = MB.length := ⟨_, rfl⟩
  obtain ⟨k3, hk3⟩ : ∃ k, k = SA.length := ⟨_, rfl⟩
  obtain ⟨k4, hk4⟩ : ∃ k, k = SB.length := ⟨_, rfl⟩
  rw [← hk1] at HLA HMM; rw [← hk2] at HLB HMM; rw [← hk3] at HRA HSS; rw [← hk4] at HRB HSS
  have M1 := hid m1; have M2 := hid m2; have HAR := hid hAR
  clear m1 m2 hAR l1 l2 l3 l4 hk1 hk2 hk3 hk4
  generalize ss.length = N at HLA HLB HRA HRB c1 hw1 ⊢
  generalize a.length = na at HLA HRA c3 hw1 ⊢
  generalize b.length = nb at HLB HRB c4 hw1 ⊢
  have HW1 := hid hw1; have HB1 := hid hb1
  have hzx : w.heap.size < w1.heap.size := by omega
  have hzz : w.heap.size + 1 < w1.heap.size := by omega
  have hzy : w.heap.size + 2 < w1.heap.size := by omega
  have HC0 := hid fun (wr : World) (h : Below w1.heap.size w1 wr) => (h.cell (p := ⟨w.heap.size, 0, none⟩) hzx).trans c0
  have HC1 := hid fun (wr : World) (h : Below w1.heap.size w1 wr) => (h.cell (p := ⟨w.heap.size, 1, none⟩) hzx).trans c1
  have HC3 := hid fun (wr : World) (h : Below w1.heap.size w1 wr) => (h.cell (p := ⟨w.heap.size + 1, 0, none⟩) hzz).trans c3
  have HC4 := hid fun (wr : World) (h : Below w1.heap.size w1 wr) => (h.cell (p := ⟨w.heap.size + 2, 0, none⟩) hzy).trans c4
  have HW : Hid (∀ wr, Below w1.heap.size w1 wr → Below w.heap.size w wr) := fun wr h => hb1.trans (h.mono (by omega))
  clear hw1 hb1 hz1 rs ra rb hv ha hb hN
  go_enter Try.func41, Try.ntmps41
  go_upto_region 1 with (fail)
  simp only [Nat.add_assoc, Nat.reduceAdd]
  rw [← HW1.out]
  clear HW1
  obtain ⟨B0, hB0⟩ : ∃ B0, B0 = w.heap.size := ⟨_, rfl⟩
  obtain ⟨B1, hB1⟩ : ∃ B1, B1 = B0 + 1 := ⟨_, rfl⟩
  obtain ⟨B2, hB2⟩ : ∃ B2, B2 = B0 + 2 := ⟨_, rfl⟩
  rw [← hB0, ← hB1] at c3 HC3 hzz
  rw [← hB0, ← hB2] at c4 HC4 hzy
  rw [← hB0] at c0 c1 HC0 HC1 hzx
  rw [← hB0, ← hB1, ← hB2]
  clear hB0 hB1 hB2
  have p0 := HC0.out _ (Below.refl _ _); have p1 := HC1.out _ (Below.refl _ _)
  by_cases hCA : CA = 0
  · have f0 : (CA != 0) = false := by simp [hCA]
    have x2 := M2.out hCA
    clear M1 M2
    subst hCA x2
    go_upto_region 4 with (first | (go_at_call 29; refine (HLA.out _ (HW.out _ (Below.refl _ _))).mono ?_; rintro e w2 ⟨A2, c2, rfl, hr2, hb2⟩; have HM2 := hid hr2; have HB2 := hid hb2; clear hb2 hr2 c0 c1 c3 c4 p0 p1))
    have q0 := HC0.out _ HB2.out; have q1 := HC1.out _ HB2.out; have q4 := HC4.out _ HB2.out
    by_cases hCB : E = 0
    · have f1 : (E != 0) = false := by simp [hCB]
      replace HAR := hid (HAR.out (by simp) hCB)
      subst hCB
      go_upto_region 7 with (first | (go_at_call 29; refine (HLB.out _ (HW.out _ HB2.out)).mono ?_; rintro e w3 ⟨A3, c3, rfl, hr3, hb3⟩; have HM3 := hid hr3; replace HM2 := hid (rdn HM2.out hb3); have HB3 := hid (bnext HB2.out hb3); clear hb3 hr3 q0 q1 q4))
      have q0 := HC0.out _ HB3.out; have q1 := HC1.out _ HB3.out; have q3 := HC3.out _ HB3.out
      go_upto_region 8 with (first | (go_at_call 33; refine (HRA.out _ (HW.out _ HB3.out)).mono ?_; rintro e w4 ⟨A4, c4, rfl, hr4, hb4⟩; have HM4 := hid hr4; replace HM2 := hid (rdn HM2.out hb4); replace HM3 := hid (rdn HM3.out hb4); have HB4 := hid (bnext HB3.out hb4); clear hb4 hr4 q0 q1 q3))
      have q0 := HC0.out _ HB4.out; have q1 := HC1.out _ HB4.out; have q4 := HC4.out _ HB4.out
      go_upto_region 9 with (first | (go_at_call 33; refine (HRB.out _ (HW.out _ HB4.out)).mono ?_; rintro e w5 ⟨A5, c5, rfl, hr5, hb5⟩; have HM5 := hid hr5; replace HM2 := hid (rdn HM2.out hb5); replace HM3 := hid (rdn HM3.out hb5); replace HM4 := hid (rdn HM4.out hb5); have HB5 := hid (bnext HB4.out hb5); clear hb5 hr5 q0 q1 q4))
      by_cases hM : MA = MB
      · have HS1 := hid ((HMM.out w5 A2 A3 c2 c3 HM2.out HM3.out).mono fun e w' h => h.get (r := true) (iff_of_true rfl hM))
        go_wp2_with (first
          | (go_at_call 34; refine HS1.out.mono ?_; rintro e w6 ⟨rfl, hb6⟩; have HB6 := hid (bnext HB5.out hb6); have HS2 := hid (HSS.out w6 A4 A5 c4 c5 (rdn HM4.out hb6) (rdn HM5.out hb6)); clear hb6)
          | (go_at_call 35; refine HS2.out.mono ?_; rintro e w7 ⟨⟨x, rfl, hx⟩, hb7⟩; have HXX := hid hx; have HB7 := hid (bnext HB6.out hb7); clear hb7 hx))
        go_ret2
        exact ⟨⟨x, rfl, HXX.out.trans ⟨fun h => ⟨rfl, HAR.out.2 ⟨hM, h⟩⟩, fun h => (HAR.out.1 h.2).2⟩⟩, HW.out _ HB7.out⟩
      · have HS1 := hid ((HMM.out w5 A2 A3 c2 c3 HM2.out HM3.out).mono fun e w' h => h.get (r := false) (iff_of_false (by simp) hM))
        go_wp2_with (first
          | (go_at_call 34; refine HS1.out.mono ?_; rintro e w6 ⟨rfl, hb6⟩; have HB6 := hid (bnext HB5.out hb6); clear hb6))
        go_ret2
        exact ⟨⟨false, rfl, iff_of_false (by simp) (fun h => hM (HAR.out.1 h.2).1)⟩, HW.out _ HB6.out⟩
    · have f1 : (E != 0) = true := by simp [hCB]
      go_wp2_with (first | (go_at_call 29; refine (HLB.out _ (HW.out _ HB2.out)).mono ?_; rintro e w3 ⟨A3, c3, rfl, hr3, hb3⟩; have HB3 := hid (bnext HB2.out hb3); clear hb3 hr3 q0 q1 q4))
      go_ret2
      exact ⟨⟨false, rfl, iff_of_false (by simp) (fun h => hCB h.1)⟩, HW.out _ HB3.out⟩
  · have f0 : (CA != 0) = true := by simp [hCA]
    have x2 := M1.out hCA
    clear M1 M2
    subst x2
    go_wp2_with (first | (go_at_call 29; refine (HLA.out _ (HW.out _ (Below.refl _ _))).mono ?_; rintro e w2 ⟨A2, c2, rfl, hr2, hb2⟩; have HB2 := hid hb2; clear hb2 hr2 c0 c1 c3 c4 p0 p1))
    go_ret2
    exact ⟨⟨false, rfl, iff_of_false (by simp) (fun h => hCA h.1)⟩, HW.out _ HB2.out⟩
end Go.Proofs.Ytddbnggficlcfaa
