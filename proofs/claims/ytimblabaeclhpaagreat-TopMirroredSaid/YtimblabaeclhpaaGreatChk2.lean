/- groups.Check. -/
import Derived.Test.YtimblabaeclhpaaGreatChk
import Derived.Test.YtimblabaeclhpaaGreatSgn7
import Derived.Test.YtimblabaeclhpaaGreatFam
namespace Go.Proofs.YtimblabaeclhpaaGreat
open Go.RowKit
theorem chkE_fam' {P : Int} {ss : List Sg} {l : List Nd} (h : listE P ss = 0) (h2 : ¬ 200 < l.length) (h3 : firstE (ownE ss l) l.length = 0) (h4 : ¬ ∀ i, i < l.length → famPs l i) : chkE P ss l = 20 := chkE_fam h h2 h3 fun h5 => h4 ((good_of h3).fam.2 h5)
theorem chkE_ok' {P : Int} {ss : List Sg} {l : List Nd} (h : listE P ss = 0) (h2 : ¬ 200 < l.length) (h3 : firstE (ownE ss l) l.length = 0) (h4 : ∀ i, i < l.length → famPs l i) : chkE P ss l = 0 := chkE_ok h h2 h3 ((good_of h3).fam.1 h4)
/-- The kinds of the last nodes of each depth. -/
structure PM (l : List Nd) (k b : Nat) (W : World) : Prop where
  cells : ∀ d : Nat, d < 5 → W.cell? ⟨b, d, none⟩ = some (.int .i64 (lastK l d k))
  free : ∀ d : Nat, d < 5 → W.frozen? ⟨b, d, none⟩ = false
  lt : b < W.heap.size
theorem PM.below {l : List Nd} {k b : Nat} {W W' : World} (h : PM l k b W) (hb : Below W.heap.size W W') : PM l k b W' :=
  ⟨fun d hd => (hb.cell (p := ⟨b, d, none⟩) h.lt).trans (h.cells d hd), fun d hd => (hb.frozen (p := ⟨b, d, none⟩) h.lt).trans (h.free d hd), Nat.lt_of_lt_of_le h.lt hb.size⟩
theorem PM.next {l : List Nd} {k b dn : Nat} {W : World} (h : PM l k b W) (hd : dep l k = dn) (hdn : dn < 5) : PM l (k + 1) b (W.setCell ⟨b, dn, none⟩ (.int .i64 (kd l k))) := by
  refine ⟨fun d hd' => ?_, fun d hd' => ?_, by simpa [World.setCell] using h.lt⟩
  · unfold lastK
    by_cases e : d = dn
    · subst e
      rw [if_pos hd]
      exact World.cell?_setCell_same _ _ _ (h.cells d hd')
    · rw [if_neg (by omega)]
      exact cell_set_far (h.cells d hd') (.inr (fun e2 => e e2.symm))
  · rw [World.frozen?_setCell]
    exact h.free d hd'
set_option maxRecDepth 100000 in
set_option maxHeartbeats 4000000 in
theorem check_any (P : Int) (ss : List Sg) (l : List Nd) (hN : ss.length ≤ 1000000) (hv : ∀ s ∈ ss, s.vals.length ≤ 1000000 ∧ s.vals.length ≤ s.vc) (hn : l.length ≤ 1000000) (A A2 : Option Addr) (c c2 : Nat) (w : World) (rs : Sgs w w.heap.size A ss) (rn : Nds w w.heap.size A2 l) :
    Calls Tryz.prog 17 #[.agg #[.int .i64 P, .slice A ss.length c], .agg #[.slice A2 l.length c2]] w fun e w' => e = .returned (.int .i64 (chkE P ss l)) ∧ Below w.heap.size w w' := by
  obtain ⟨w1, hw1⟩ : ∃ w1, w1 = (w.alloc (.cells #[.int .i64 P, .slice A ss.length c] 24)).alloc (.cells #[.slice A2 l.length c2] 30) := ⟨_, rfl⟩
  have hb1 : Below w.heap.size w w1 := by rw [hw1]; exact ((Below.refl _ _).alloc (Nat.le_refl _) _).alloc (by simp) _
  have hz1 : w1.heap.size = w.heap.size + 2 := by rw [hw1]; simp
  have c0 : w1.cell? ⟨w.heap.size, 0, none⟩ = some (.int .i64 P) := by rw [hw1]; exact cell_old (cell_here rfl rfl)
  have c1 : w1.cell? ⟨w.heap.size, 1, none⟩ = some (.slice A ss.length c) := by rw [hw1]; exact cell_old (cell_here rfl rfl)
  have c2' : w1.cell? ⟨w.heap.size + 1, 0, none⟩ = some (.slice A2 l.length c2) := by rw [hw1]; exact cell_here (by simp) rfl
  have HLC := hid (listCheck_any P ss hN hv A c w1 ((rs.below hb1).more (by omega)))
  have HOW := hid fun (i : Nat) (hi : i < l.length) (hp : ∀ j, j + 1 = i → 0 ≤ dep l j ∧ dep l j ≤ 4) (W : World) (h : Below w.heap.size w W) => first_any P ss l i A A2 c c2 hi hp hN hn W ((rs.below h).more h.size) ((rn.below h).more h.size)
  have HRN := hid rn
  have HFA := hid fun (i : Nat) (hi : i < l.length) (W : World) (h : Below w.heap.size w W) => family_any l i (parK l i) hi hn A2 c2 W ((rn.below h).more h.size)
  have m1 := chkE_list (P := P) (ss := ss) (l := l); have m2 := chkE_many (P := P) (ss := ss) (l := l); have m3 := chkE_own (P := P) (ss := ss) (l := l); have m4 := chkE_fam' (P := P) (ss := ss) (l := l); have m5 := chkE_ok' (P := P) (ss := ss) (l := l)
  generalize chkE P ss l = E at m1 m2 m3 m4 m5 ⊢
  generalize listE P ss = LE at HLC m1 m2 m3 m4 m5
  obtain ⟨N, hNN⟩ : ∃ N, N = ss.length := ⟨_, rfl⟩
  obtain ⟨n, hnn⟩ : ∃ n, n = l.length := ⟨_, rfl⟩
  rw [← hNN] at HLC HOW c1 hw1 ⊢
  rw [← hnn] at HOW HFA c2' hw1 hn m2 m3 m4 m5 ⊢
  have HW1 := hid hw1; have HB1 := hid hb1; have HNN := hid hnn; have HZ1 := hid hz1
  have M1 := hid m1; have M2 := hid m2; have M3 := hid m3; have M4 := hid m4; have M5 := hid m5
  clear hw1 hb1 hnn hNN hz1 m1 m2 m3 m4 m5 rs rn hv hN
  go_enter Tryz.func17, Tryz.ntmps17
  go_upto_region 1 with (fail)
  rw [← HW1.out]
  have hzz : w.heap.size + 1 < w1.heap.size := by have := HZ1.out; omega
  have HC0 := hid fun (wr : World) (h : Below w1.heap.size w1 wr) => (h.cell (p := ⟨w.heap.size, 0, none⟩) (by show w.heap.size < _; omega)).trans c0
  have HC1 := hid fun (wr : World) (h : Below w1.heap.size w1 wr) => (h.cell (p := ⟨w.heap.size, 1, none⟩) (by show w.heap.size < _; omega)).trans c1
  have HC2 := hid fun (wr : World) (h : Below w1.heap.size w1 wr) => (h.cell (p := ⟨w.heap.size + 1, 0, none⟩) hzz).trans c2'
  have HW : Hid (∀ wr, Below w1.heap.size w1 wr → Below w.heap.size w wr) := fun wr h => HB1.out.trans (h.mono (by omega))
  obtain ⟨B0, hB0⟩ : ∃ B0, B0 = w.heap.size := ⟨_, rfl⟩
  obtain ⟨B1, hB1⟩ : ∃ B1, B1 = B0 + 1 := ⟨_, rfl⟩
  rw [← hB0, ← hB1] at HC2 hzz
  rw [← hB0] at c0 c1 HC0 HC1 ⊢
  rw [← hB1]
  clear hB0 hB1 HW1 HB1 HZ1 c2'
  by_cases hLE : LE = 0
  · have f0 : (LE != 0) = false := by simp [hLE]
    replace M2 := hid (M2.out hLE); replace M3 := hid (M3.out hLE); replace M4 := hid (M4.out hLE); replace M5 := hid (M5.out hLE)
    subst hLE
    clear M1
    go_upto_region 4 with (first | (go_at_call 13; refine HLC.out.mono ?_; rintro e w2 ⟨rfl, hb2⟩; have p2 := HC2.out w2 hb2; have HB2 := hid hb2; clear hb2 HLC c0 c1))
    by_cases h200 : 200 < n
    · have HX := hid (M2.out h200)
      have f1 : decide ((200 : Int) < (n : Int)) = true := decide_eq_true (by omega)
      clear M2 M3 M4 M5
      go_wp2_with fail
      go_ret
      exact ⟨by rw [HX.out]; rfl, HW.out _ HB2.out⟩
    · replace M3 := hid (M3.out h200); replace M4 := hid (M4.out h200); replace M5 := hid (M5.out h200)
      have f1 : decide ((200 : Int) < (n : Int)) = false := decide_eq_false (by omega)
      clear M2 h200
      go_wp2_with fail
      go_loopw [24] (fun kv wr => ∃ k : Nat, k ≤ n ∧ kv = .int .i64 k ∧ Hid (firstE (ownE ss l) k = 0) ∧ Hid (Below w1.heap.size w1 wr)) (fun kv _ => n - (intOf kv).toNat)
      case atStart => exact ⟨0, by omega, rfl, hid rfl, HB2⟩
      case round =>
        obtain ⟨k, hk, rfl, hF, hB⟩ := hrel
        have q0 := HC0.out wr hB.out
        have q1 := HC1.out wr hB.out
        have q2 := HC2.out wr hB.out
        by_cases hkn : k < n
        · have hkl : k < l.length := by rw [← HNN.out]; exact hkn
          have hq : (k : Int) < (n : Int) := by omega
          have hp : ∀ j, j + 1 = k → 0 ≤ dep l j ∧ dep l j ≤ 4 := fun j hj => (own_zero (ss := ss) (by omega) (firstE_get hF.out j (by omega))).2.1
          have hc := HOW.out k hkn hp wr (HW.out _ hB.out)
          obtain ⟨E2, hE2⟩ : ∃ E2, E2 = ownE ss l k := ⟨_, rfl⟩
          rw [← hE2] at hc
          have hbad : E2 ≠ 0 → E = E2 := fun h => by
            have h2 := firstE_at hF.out (by rw [← hE2]; exact h) n hkn
            rw [hE2, ← h2]
            exact M3.out (by rw [h2, ← hE2]; exact h)
          have hgood : E2 = 0 → firstE (ownE ss l) (k + 1) = 0 := fun h => firstE_s hF.out (by rw [← hE2]; exact h)
          have HCC := hid hc; have HBAD := hid hbad; have HGOOD := hid hgood
          clear hp hc hE2 hbad hgood hF
          by_cases h0 : E2 = 0
          · have HX := hid (HGOOD.out h0)
            have f2 : (E2 != 0) = false := by simp [h0]
            clear h0 HBAD HGOOD
            go_wp2_with (first | (go_at_call 30; refine HCC.out.mono ?_; rintro e w3 ⟨rfl, hb3⟩; have HB3 := hid (hB.out.trans (hb3.mono hB.out.size)); clear hb3 q0 q1 q2))
            go_roundw
            case rel => exact ⟨k + 1, by omega, by go_num, HX.out, HB3.out⟩
            case measure => simp [intOf]; omega
          · have HX := hid (HBAD.out h0)
            have f2 : (E2 != 0) = true := by simp [h0]
            clear h0 HBAD HGOOD
            go_wp2_with (first | (go_at_call 30; refine HCC.out.mono ?_; rintro e w3 ⟨rfl, hb3⟩; have HB3 := hid (hB.out.trans (hb3.mono hB.out.size)); clear hb3 q0 q1 q2))
            go_ret
            exact ⟨by rw [HX.out]; rfl, HW.out _ HB3.out⟩
        · obtain rfl : n = k := by omega
          have HG : Hid (Good l) := good_of (ss := ss) (by rw [← HNN.out]; exact hF.out)
          replace M4 := hid (M4.out hF.out); replace M5 := hid (M5.out hF.out)
          clear hF M3 q0 q1 HOW HC0 HC1
          have hblt : B1 < wr.heap.size := Nat.lt_of_lt_of_le hzz hB.out.size
          go_wp2_with fail
          obtain ⟨W8, hW8⟩ : ∃ W8, W8 = wr.alloc (.cells #[.int .i64 0, .int .i64 0, .int .i64 0, .int .i64 0, .int .i64 0] 96) := ⟨_, rfl⟩
          have hB8 : Below w1.heap.size w1 W8 := by rw [hW8]; exact hB.out.alloc hB.out.size _
          have hPM : PM l 0 wr.heap.size W8 := by
            rw [hW8]
            refine ⟨fun d hd => ?_, fun d hd => ?_, by simp⟩
            · have : d = 0 ∨ d = 1 ∨ d = 2 ∨ d = 3 ∨ d = 4 := by omega
              rcases this with rfl | rfl | rfl | rfl | rfl <;> exact cell_here rfl rfl
            · simp
          rw [← hW8]
          obtain ⟨b8, hb8⟩ : ∃ b8, b8 = wr.heap.size := ⟨_, rfl⟩
          have hb8' : w1.heap.size ≤ b8 := by rw [hb8]; exact hB.out.size
          rw [← hb8] at hPM ⊢
          have HPM := hid hPM; have HB8 := hid hB8
          clear hb8 hW8 hPM hB8 q2 hblt hB
          go_loopw [38] (fun kv w5 => ∃ k : Nat, k ≤ n ∧ kv = .int .i64 k ∧ Hid (∀ i, i < k → famPs l i) ∧ Hid (Below w1.heap.size w1 w5) ∧ Hid (PM l k b8 w5)) (fun kv _ => n - (intOf kv).toNat)
          case atStart => exact ⟨0, by omega, rfl, hid (fun i hi => by omega), HB8, HPM⟩
          case round =>
            obtain ⟨k, hk, rfl, hF, hB5, hP5⟩ := hrel
            have q2 := HC2.out wr hB5.out
            have hblt : B1 < wr.heap.size := Nat.lt_of_lt_of_le hzz hB5.out.size
            have hb8lt := hP5.out.lt
            by_cases hkn : k < n
            · have hq : (k : Int) < (n : Int) := by omega
              have hkl : k < l.length := by rw [← HNN.out]; exact hkn
              obtain ⟨b, o, rfl, hb, hc⟩ := HRN.out.at (by omega)
              have hx := (hc k hkl).below (HW.out _ hB5.out) hb
              have d1 := hx.kind; have d2 := hx.depth; have d3 := hx.sign; have d4 := hx.turn; have d5 := hx.mir; have d6 := hx.state; have d7 := hx.mn; have d8 := hx.mx
              rw [← kd_at hkl] at d1
              rw [← dep_at hkl] at d2
              have hdk := HG.out.deps k hkl
              obtain ⟨dn, hdn⟩ : ∃ dn : Nat, dep l k = dn := ⟨(dep l k).toNat, by omega⟩
              have hdn5 : dn < 5 := by omega
              have hpar : parK l k = if 0 < dn then lastK l ((dn : Int) - 1) k else 0 := by unfold parK; rw [hdn]; simp
              have HNX := hid (fun (W : World) (h : PM l k b8 W) => h.next hdn hdn5)
              rw [hdn] at d2
              obtain ⟨r, hr⟩ : ∃ r : Bool, (r = true ↔ famP l k (kidsOf l (k : Int)) (parK l k)) := by
                by_cases h : famP l k (kidsOf l (k : Int)) (parK l k)
                · exact ⟨true, iff_of_true rfl h⟩
                · exact ⟨false, iff_of_false (by simp) h⟩
              have hfa := fun (W : World) (h : Below w.heap.size w W) => (HFA.out k hkn W h).mono fun e w' hb => hb.get hr
              have hyes : r = true → ∀ i, i < k + 1 → famPs l i := fun h i hi => by
                rcases Nat.eq_or_lt_of_le (Nat.le_of_lt_succ hi) with rfl | h3
                · exact hr.1 h
                · exact hF.out i h3
              have hno : r = false → E = 20 := fun h => M4.out fun h2 => by
                have := hr.2 (h2 k hkn)
                rw [h] at this
                cases this
              rw [hpar] at hfa
              have HF := hid hfa; have HYES := hid hyes; have HNO := hid hno
              generalize kd l k = kk at d1 HNX
              clear hx
              generalize l[k]'hkl = nd9 at d3 d4 d5 d6 d7 d8
              obtain ⟨nk, ndp, ns, nt, nm, nst, nmn, nmx⟩ := nd9
              simp only [] at d3 d4 d5 d6 d7 d8
              clear hc hdk hdn hpar hr hfa hyes hno hF
              obtain ⟨W9, hW9⟩ : ∃ W9, W9 = wr.alloc (.cells #[.int .i64 kk, .int .i64 dn, .int .i64 ns, .int .i64 nt, .bool nm, .int .i64 nst, .int .i64 nmn, .int .i64 nmx] 67) := ⟨_, rfl⟩
              have hb9 : Below wr.heap.size wr W9 := by rw [hW9]; exact (Below.refl _ _).alloc (Nat.le_refl _) _
              have hz9 : W9.heap.size = wr.heap.size + 1 := by rw [hW9]; simp
              have t0 : W9.cell? ⟨wr.heap.size, 0, none⟩ = some (.int .i64 kk) := by rw [hW9]; exact cell_here rfl rfl
              have t1 : W9.cell? ⟨wr.heap.size, 1, none⟩ = some (.int .i64 dn) := by rw [hW9]; exact cell_here rfl rfl
              have hP9 := hP5.out.below hb9
              have hB9 := hB5.out.trans (hb9.mono hB5.out.size)
              have t2 := HC2.out W9 hB9
              go_upto_region 17 with (fail)
              rw [← hW9]
              obtain ⟨b9, hb9x⟩ : ∃ b9, b9 = wr.heap.size := ⟨_, rfl⟩
              rw [← hb9x] at t0 t1 ⊢
              have hne : b9 ≠ b8 := by omega
              have hne1 : B1 ≠ b8 := by omega
              have HP9 := hid hP9; have HB9 := hid hB9
              have hbb : b8 ≠ B1 := by omega
              have hb98 : b8 ≠ b9 := by omega
              clear hW9 hb9 hz9 hb9x hb8lt hP9 hB9 hP5 q2 d1 d2 d3 d4 d5 d6 d7 d8
              have hst : Hid (∀ v : Value, Below w1.heap.size w1 (W9.setCell ⟨b8, dn, none⟩ v)) := fun v => HB9.out.setCell (by simpa using hb8') v
              by_cases h0 : dn = 0
              · subst h0
                have s0 := HP9.out.cells 0 (by omega)
                have z0 := HP9.out.free 0 (by omega)
                have hcl := HF.out (W9.setCell ⟨b8, 0, none⟩ (.int .i64 kk)) (HW.out _ (hst.out _))
                rw [if_neg (by omega)] at hcl
                have HCL := hid hcl
                have HPN := hid (HNX.out W9 HP9.out)
                clear hdn5 hcl
                have HST := hid (hst.out (.int .i64 kk))
                clear HF HNX hst
                cases r with
                | true =>
                  have HX := hid (HYES.out rfl)
                  clear HYES HNO
                  go_wp2_with (first | (go_at_call 31; refine HCL.out.mono ?_; rintro e w6 ⟨rfl, hb6⟩; have HB6 := hid (HST.out.trans (hb6.mono HST.out.size)); have HP6 := hid (HPN.out.below hb6); clear hb6))
                  go_roundw
                  case rel => exact ⟨k + 1, by omega, by go_num, HX.out, HB6.out, HP6.out⟩
                  case measure => simp [intOf]; omega
                | false =>
                  have HX := hid (HNO.out rfl)
                  clear HYES HNO
                  go_wp2_with (first | (go_at_call 31; refine HCL.out.mono ?_; rintro e w6 ⟨rfl, hb6⟩; have HB6 := hid (HST.out.trans (hb6.mono HST.out.size)); clear hb6))
                  go_ret
                  exact ⟨by rw [HX.out]; rfl, HW.out _ HB6.out⟩
              · obtain ⟨e, rfl⟩ : ∃ e, dn = e + 1 := ⟨dn - 1, by omega⟩
                have s0 := HP9.out.cells e (by omega)
                have z0 := HP9.out.free (e + 1) (by omega)
                have s1 := HP9.out.cells (e + 1) (by omega)
                have hcl := HF.out (W9.setCell ⟨b8, e + 1, none⟩ (.int .i64 kk)) (HW.out _ (hst.out _))
                rw [if_pos (by omega), show ((e + 1 : Nat) : Int) - 1 = (e : Int) by omega] at hcl
                generalize lastK l (e : Int) k = par at s0 hcl
                have HCL := hid hcl
                have HPN := hid (HNX.out W9 HP9.out)
                have he : (e : Int) < 5 := by omega
                clear hcl
                have HST := hid (hst.out (.int .i64 kk))
                clear HF HNX hst
                cases r with
                | true =>
                  have HX := hid (HYES.out rfl)
                  clear HYES HNO
                  go_wp2_with (first | (go_at_call 31; refine HCL.out.mono ?_; rintro e w6 ⟨rfl, hb6⟩; have HB6 := hid (HST.out.trans (hb6.mono HST.out.size)); have HP6 := hid (HPN.out.below hb6); clear hb6))
                  go_roundw
                  case rel => exact ⟨k + 1, by omega, by go_num, HX.out, HB6.out, HP6.out⟩
                  case measure => simp [intOf]; omega
                | false =>
                  have HX := hid (HNO.out rfl)
                  clear HYES HNO
                  go_wp2_with (first | (go_at_call 31; refine HCL.out.mono ?_; rintro e w6 ⟨rfl, hb6⟩; have HB6 := hid (HST.out.trans (hb6.mono HST.out.size)); clear hb6))
                  go_ret
                  exact ⟨by rw [HX.out]; rfl, HW.out _ HB6.out⟩
            · obtain rfl : n = k := by omega
              have HX := hid (M5.out hF.out)
              clear hF
              go_wp2_with fail
              go_ret
              exact ⟨by rw [HX.out]; rfl, HW.out _ hB5.out⟩
  · have f0 : (LE != 0) = true := by simp [hLE]
    have HX := hid (M1.out hLE)
    clear M1 M2 M3 M4 M5 hLE
    go_wp2_with (first | (go_at_call 13; refine HLC.out.mono ?_; rintro e w2 ⟨rfl, hb2⟩; have HB2 := hid hb2; clear hb2 HLC c0 c1))
    go_ret
    exact ⟨by rw [HX.out]; rfl, HW.out _ HB2.out⟩
end Go.Proofs.YtimblabaeclhpaaGreat
