/- ostraconref02.Check. -/
import Derived.Test.YtfkcpcdndleboaaChk
import Derived.Test.YtfkcpcdndleboaaSgn6
import Derived.Test.YtfkcpcdndleboaaRFam
namespace Go.Proofs.Ytfkcpcdndleboaa
open Go.RowKit
theorem bool_class {P : Program} {f n0 : Nat} {args : Array Value} {wb : World} {p : Prop} {r : Bool} (hr : r = true ↔ p) (hn : n0 ≤ wb.heap.size) (h : ∀ z : BW n0 wb, Calls P f args z.val (BoolIs p z.val)) (z : BW n0 wb) : Calls P f args z.val fun e w' => e = .returned (.bool r) ∧ ∃ z' : BW n0 wb, w' = z'.val :=
  (h z).mono fun _ w' hb => ⟨(hb.get hr).1, ⟨w', z.ok.trans ((hb.get hr).2.mono (Nat.le_trans hn z.ok.size))⟩, rfl⟩
set_option maxRecDepth 100000 in
set_option maxHeartbeats 4000000 in
theorem refCheck_any (P : Int) (ss : List Sg) (l : List Nd) (hN : ss.length ≤ 1000000) (hv : ∀ s ∈ ss, s.vals.length ≤ 1000000) (hn : l.length ≤ 1000000) (A A2 : Option Addr) (c c2 : Nat) (w : World) (rs : Sgs w w.heap.size A ss) (rn : Nds w w.heap.size A2 l) :
    Calls Try.prog 18 #[.agg #[.int .i64 P, .slice A ss.length c], .agg #[.slice A2 l.length c2]] w fun e w' => e = .returned (.int .i64 (chkE P ss l)) ∧ Below w.heap.size w w' := by
  obtain ⟨w1, hw1⟩ : ∃ w1, w1 = (w.alloc (.cells #[.int .i64 P, .slice A ss.length c] 24)).alloc (.cells #[.slice A2 l.length c2] 27) := ⟨_, rfl⟩
  have hb1 : Below w.heap.size w w1 := by rw [hw1]; exact ((Below.refl _ _).alloc (Nat.le_refl _) _).alloc (by simp) _
  have hz1 : w1.heap.size = w.heap.size + 2 := by rw [hw1]; simp
  have c0 : w1.cell? ⟨w.heap.size, 0, none⟩ = some (.int .i64 P) := by rw [hw1]; exact cell_old (cell_here rfl rfl)
  have c1 : w1.cell? ⟨w.heap.size, 1, none⟩ = some (.slice A ss.length c) := by rw [hw1]; exact cell_old (cell_here rfl rfl)
  have c2' : w1.cell? ⟨w.heap.size + 1, 0, none⟩ = some (.slice A2 l.length c2) := by rw [hw1]; exact cell_here (by simp) rfl
  have HLC := hid (refListCheck_any P ss hN hv A c w1 ((rs.below hb1).more (by omega)))
  have HOW := hid fun (i : Nat) (hi : i < l.length) (hp : ∀ j, j + 1 = i → 0 ≤ dep l j ∧ dep l j ≤ 4) (W : World) (h : Below w.heap.size w W) => own_any P ss l i A A2 c c2 hi hp hN hn W ((rs.below h).more h.size) ((rn.below h).more h.size)
  have HPA := hid fun (i : Nat) (hi : i < l.length) (W : World) (h : Below w.heap.size w W) => parent_any l i hi hn A2 c2 W ((rn.below h).more h.size)
  have HFA := hid fun (hg : Good l) (i : Nat) (hi : i < l.length) (W : World) (h : Below w.heap.size w W) => refFam_any l i hg.wf hg.deps hi hn A2 c2 W ((rn.below h).more h.size)
  have m1 := chkE_list (P := P) (ss := ss) (l := l); have m2 := chkE_many (P := P) (ss := ss) (l := l); have m3 := chkE_own (P := P) (ss := ss) (l := l); have m4 := chkE_fam (P := P) (ss := ss) (l := l); have m5 := chkE_ok (P := P) (ss := ss) (l := l)
  generalize chkE P ss l = E at m1 m2 m3 m4 m5 ⊢
  generalize listE P ss = LE at HLC m1 m2 m3 m4 m5
  obtain ⟨N, hNN⟩ : ∃ N, N = ss.length := ⟨_, rfl⟩
  obtain ⟨n, hnn⟩ : ∃ n, n = l.length := ⟨_, rfl⟩
  rw [← hNN] at HLC HOW c1 hw1 ⊢
  rw [← hnn] at HOW HPA HFA c2' hw1 hn m2 m3 m4 m5 ⊢
  have HW1 := hid hw1; have HB1 := hid hb1; have HNN := hid hnn; have HZ1 := hid hz1
  have M1 := hid m1; have M2 := hid m2; have M3 := hid m3; have M4 := hid m4; have M5 := hid m5
  clear hw1 hb1 hnn hNN hz1 m1 m2 m3 m4 m5 rs rn hv hN
  go_enter Try.func18, Try.ntmps18
  go_upto_region 1 with (fail)
  rw [← HW1.out]
  have hzz : w.heap.size + 1 < w1.heap.size := by have := HZ1.out; omega
  have HC0 := hid fun (wr : World) (h : Below w1.heap.size w1 wr) => (h.cell (p := ⟨w.heap.size, 0, none⟩) (by show w.heap.size < _; omega)).trans c0
  have HC1 := hid fun (wr : World) (h : Below w1.heap.size w1 wr) => (h.cell (p := ⟨w.heap.size, 1, none⟩) (by show w.heap.size < _; omega)).trans c1
  have HC2 := hid fun (wr : World) (h : Below w1.heap.size w1 wr) => (h.cell (p := ⟨w.heap.size + 1, 0, none⟩) hzz).trans c2'
  have HW : Hid (∀ wr, Below w1.heap.size w1 wr → Below w.heap.size w wr) := fun wr h => HB1.out.trans (h.mono (by omega))
  obtain ⟨B0, hB0⟩ : ∃ B0, B0 = w.heap.size := ⟨_, rfl⟩
  obtain ⟨B1, hB1⟩ : ∃ B1, B1 = B0 + 1 := ⟨_, rfl⟩
  rw [← hB0, ← hB1] at HC2
  rw [← hB0] at c0 c1 HC0 HC1 ⊢
  rw [← hB1]
  clear hB0 hB1 HW1 HB1 HZ1 c2'
  by_cases hLE : LE = 0
  · have f0 : (LE != 0) = false := by simp [hLE]
    replace M2 := hid (M2.out hLE); replace M3 := hid (M3.out hLE); replace M4 := hid (M4.out hLE); replace M5 := hid (M5.out hLE)
    subst hLE
    clear M1
    go_upto_region 4 with (first | (go_at_call 51; refine HLC.out.mono ?_; rintro e w2 ⟨rfl, hb2⟩; have p2 := HC2.out w2 hb2; have HB2 := hid hb2; clear hb2 HLC c0 c1))
    by_cases h200 : 200 < n
    · have HX := hid (M2.out h200)
      have f1 : decide ((200 : Int) < (n : Int)) = true := decide_eq_true (by omega)
      clear M2 M3 M4 M5
      go_wp2_with fail
      go_ret
      exact ⟨by rw [HX.out]; rfl, HW.out _ HB2.out⟩
    · replace M3 := hid (M3.out h200); replace M4 := hid (M4.out h200); replace M5 := hid (M5.out h200)
      have f1 : decide ((200 : Int) < (n : Int)) = false := decide_eq_false (by omega)
      clear M2 h200
      go_wp2_with fail
      go_loopw [6] (fun kv wr => ∃ k : Nat, k ≤ n ∧ kv = .int .i64 k ∧ Hid (firstE (ownE ss l) k = 0) ∧ Hid (Below w1.heap.size w1 wr)) (fun kv _ => n - (intOf kv).toNat)
      case atStart => exact ⟨0, by omega, rfl, hid rfl, HB2⟩
      case round =>
        obtain ⟨k, hk, rfl, hF, hB⟩ := hrel
        have q0 := HC0.out wr hB.out
        have q1 := HC1.out wr hB.out
        have q2 := HC2.out wr hB.out
        by_cases hkn : k < n
        · have hkl : k < l.length := by rw [← HNN.out]; exact hkn
          have hq : (k : Int) < (n : Int) := by omega
          have hp : ∀ j, j + 1 = k → 0 ≤ dep l j ∧ dep l j ≤ 4 := fun j hj => (own_zero (ss := ss) (by omega) (firstE_get hF.out j (by omega))).2.1
          have hc := HOW.out k hkn hp wr (HW.out _ hB.out)
          obtain ⟨E2, hE2⟩ : ∃ E2, E2 = ownE ss l k := ⟨_, rfl⟩
          rw [← hE2] at hc
          have hbad : E2 ≠ 0 → E = E2 := fun h => by
            have h2 := firstE_at hF.out (by rw [← hE2]; exact h) n hkn
            rw [hE2, ← h2]
            exact M3.out (by rw [h2, ← hE2]; exact h)
          have hgood : E2 = 0 → firstE (ownE ss l) (k + 1) = 0 := fun h => firstE_s hF.out (by rw [← hE2]; exact h)
          have HCC := hid hc; have HBAD := hid hbad; have HGOOD := hid hgood
          clear hp hc hE2 hbad hgood hF
          by_cases h0 : E2 = 0
          · have HX := hid (HGOOD.out h0)
            have f2 : (E2 != 0) = false := by simp [h0]
            clear h0 HBAD HGOOD
            go_wp2_with (first | (go_at_call 52; refine HCC.out.mono ?_; rintro e w3 ⟨rfl, hb3⟩; have HB3 := hid (hB.out.trans (hb3.mono hB.out.size)); clear hb3 q0 q1 q2))
            go_roundw
            case rel => exact ⟨k + 1, by omega, by go_num, HX.out, HB3.out⟩
            case measure => simp [intOf]; omega
          · have HX := hid (HBAD.out h0)
            have f2 : (E2 != 0) = true := by simp [h0]
            clear h0 HBAD HGOOD
            go_wp2_with (first | (go_at_call 52; refine HCC.out.mono ?_; rintro e w3 ⟨rfl, hb3⟩; have HB3 := hid (hB.out.trans (hb3.mono hB.out.size)); clear hb3 q0 q1 q2))
            go_ret
            exact ⟨by rw [HX.out]; rfl, HW.out _ HB3.out⟩
        · obtain rfl : n = k := by omega
          have HG : Hid (Good l) := good_of (ss := ss) (by rw [← HNN.out]; exact hF.out)
          replace M4 := hid (M4.out hF.out); replace M5 := hid (M5.out hF.out)
          clear hF M3 q0 q1 HOW
          go_wp2_with fail
          go_loopw [8] (fun kv w5 => ∃ k : Nat, k ≤ n ∧ kv = .int .i64 k ∧ Hid (∀ i, i < k → famRs l i) ∧ Hid (Below w1.heap.size w1 w5)) (fun kv _ => n - (intOf kv).toNat)
          case atStart => exact ⟨0, by omega, rfl, hid (fun i hi => by omega), hB⟩
          case round =>
            obtain ⟨k, hk, rfl, hF, hB5⟩ := hrel
            have q2 := HC2.out wr hB5.out
            by_cases hkn : k < n
            · have hq : (k : Int) < (n : Int) := by omega
              have hbz : ∀ z : BW w1.heap.size wr, Below w1.heap.size w1 z.val := fun z => hB5.out.trans z.ok
              have cz := fun z : BW w1.heap.size wr => HC2.out z.val (hbz z)
              have hpa := fun z : BW w1.heap.size wr => HPA.out k hkn z.val (HW.out _ (hbz z))
              have hfa := fun z : BW w1.heap.size wr => HFA.out HG.out k hkn z.val (HW.out _ (hbz z))
              obtain ⟨r, hr⟩ : ∃ r : Bool, (r = true ↔ famRs l k) := by
                by_cases h : famRs l k
                · exact ⟨true, iff_of_true rfl h⟩
                · exact ⟨false, iff_of_false (by simp) h⟩
              have HPZ := hid (below_class hB5.out.size hpa)
              have HFZ := hid (bool_class hr hB5.out.size hfa)
              have hyes : r = true → ∀ i, i < k + 1 → famRs l i := fun h i hi => by
                rcases Nat.eq_or_lt_of_le (Nat.le_of_lt_succ hi) with rfl | h3
                · exact hr.1 h
                · exact hF.out i h3
              have hno : r = false → E = 20 := fun h => M4.out fun h2 => by
                have := hr.2 (h2 k hkn)
                rw [h] at this
                cases this
              generalize parOf l k = par at HPZ HFZ
              have HYES := hid hyes; have HNO := hid hno; have HBZ := hid hbz
              have HB := hid (Below.refl w1.heap.size wr)
              clear hpa hfa hr hyes hno hbz hF
              go_wp2_with fail
              refine region_below (by kernel_rfl) (by kernel_rfl) HB.out ?_
              repeat (go_big_quiet_step (first | (go_at_call 54; go_must (exact (HPZ.out _))) | (go_at_call 53; go_must (exact (HFZ.out _)))))
              refine wpQuiet_nil ?_
              intro _ hw'
              obtain ⟨z, rfl⟩ := hw'
              have HZ := hid (HBZ.out z)
              clear cz HB HBZ HPZ HFZ q2
              cases r with
              | true =>
                have HX := hid (HYES.out rfl)
                clear HYES HNO
                go_wp2_with fail
                go_roundw
                case rel => exact ⟨k + 1, by omega, by go_num, HX.out, HZ.out⟩
                case measure => simp [intOf]; omega
              | false =>
                have HX := hid (HNO.out rfl)
                clear HYES HNO
                go_wp2_with fail
                go_ret
                exact ⟨by rw [HX.out]; rfl, HW.out _ HZ.out⟩
            · obtain rfl : n = k := by omega
              have HX := hid (M5.out hF.out)
              clear hF
              go_wp2_with fail
              go_ret
              exact ⟨by rw [HX.out]; rfl, HW.out _ hB5.out⟩
  · have f0 : (LE != 0) = true := by simp [hLE]
    have HX := hid (M1.out hLE)
    clear M1 M2 M3 M4 M5 hLE
    go_wp2_with (first | (go_at_call 51; refine HLC.out.mono ?_; rintro e w2 ⟨rfl, hb2⟩; have HB2 := hid hb2; clear hb2 HLC c0 c1))
    go_ret
    exact ⟨by rw [HX.out]; rfl, HW.out _ HB2.out⟩
end Go.Proofs.Ytfkcpcdndleboaa
