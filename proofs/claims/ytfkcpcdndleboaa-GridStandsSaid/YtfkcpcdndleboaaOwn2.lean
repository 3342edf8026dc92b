/- The error of a node by itself: ostraconref02.own. -/
import Derived.Test.YtfkcpcdndleboaaOwn
namespace Go.Proofs.Ytfkcpcdndleboaa
open Go.RowKit
set_option maxRecDepth 100000 in
theorem leaf_any (k : Int) (w : World) : Calls Try.prog 21 #[.int .i64 k] w fun e w' => e = .returned (.bool (leafB k)) ∧ w = w' := by
  obtain ⟨r, hr⟩ : ∃ r, r = leafB k := ⟨_, rfl⟩
  rw [← hr]
  unfold leafB at hr
  have HR := hid hr
  clear hr
  by_cases h1 : k = 1
  · have e1 : (k == 1) = true := by simp [h1]
    have HX : Hid (r = true) := by rw [HR.out, decide_eq_true h1]; rfl
    clear h1
    go_enter Try.func21, Try.ntmps21
    go_wp2_with fail
    go_ret
    exact ⟨by rw [HX.out]; rfl, rfl⟩
  · have e1 : (k == 1) = false := by simp [h1]
    by_cases h2 : k = 6
    · have e2 : (k == 6) = true := by simp [h2]
      have HX : Hid (r = true) := by rw [HR.out, decide_eq_true h2, Bool.or_true]; exact hid rfl
      clear h1 h2
      go_enter Try.func21, Try.ntmps21
      go_wp2_with fail
      go_ret
      exact ⟨by rw [HX.out]; rfl, rfl⟩
    · have e2 : (k == 6) = false := by simp [h2]
      have HX : Hid (r = false) := by rw [HR.out, decide_eq_false h1, decide_eq_false h2]; rfl
      clear h1 h2
      go_enter Try.func21, Try.ntmps21
      go_wp2_with fail
      go_ret
      exact ⟨by rw [HX.out]; rfl, rfl⟩
set_option maxRecDepth 100000 in
set_option maxHeartbeats 4000000 in
theorem own_any (P : Int) (ss : List Sg) (l : List Nd) (i : Nat) (A A2 : Option Addr) (c c2 : Nat) (hi : i < l.length) (hp : ∀ j, j + 1 = i → 0 ≤ dep l j ∧ dep l j ≤ 4) (hN : ss.length ≤ 1000000) (hn : l.length ≤ 1000000) (w : World) (rs : Sgs w w.heap.size A ss) (rn : Nds w w.heap.size A2 l) :
    Calls Try.prog 52 #[.agg #[.int .i64 P, .slice A ss.length c], .agg #[.slice A2 l.length c2], .int .i64 i] w fun e w' => e = .returned (.int .i64 (ownE ss l i)) ∧ Below w.heap.size w w' := by
  obtain ⟨b, o, rfl, hb, hc⟩ := rn.at (by omega)
  have hx := hc i hi
  have hE : ownE ss l i = ndE ss.length (evenOf ss (l[i]'hi).sign) (mostOf l i) (l[i]'hi) := by unfold ownE; rw [nd_at hi]
  have hprev : ∀ j (h : j + 1 = i), NdAt w b (o + j * 8) (l[j]'(by omega)) ∧ mostOf l i = if leafB (l[j]'(by omega)).kind = true then (l[j]'(by omega)).depth else (l[j]'(by omega)).depth + 1 := fun j h => by
    subst h
    exact ⟨hc j (by omega), mostOf_s (by omega)⟩
  have hpd : ∀ j (h : j + 1 = i), 0 ≤ (l[j]'(by omega)).depth ∧ (l[j]'(by omega)).depth ≤ 4 := fun j h => by
    have := hp j h
    rw [dep_at (by omega)] at this
    exact this
  have hm0 : i = 0 → mostOf l i = 0 := fun h => by subst h; rfl
  generalize l[i]'hi = n at hx hE
  have d1 := hx.kind; have d2 := hx.depth; have d3 := hx.sign; have d4 := hx.turn; have d5 := hx.mir; have d6 := hx.state; have d7 := hx.mn; have d8 := hx.mx
  have hev : ∀ k : Nat, k < ss.length → n.sign = k → ∃ b1 o1, A = some ⟨b1, o1, none⟩ ∧ b1 < w.heap.size ∧ w.cell? ⟨b1, o1 + k * 5 + 3, none⟩ = some (.bool (evenOf ss n.sign)) := fun k hk hs => by
    obtain ⟨b1, o1, h1, h2, h3⟩ := rs.at (by omega)
    exact ⟨b1, o1, h1, h2, by rw [hs, even_at hk]; exact (h3 k hk).even⟩
  obtain ⟨E, hE2⟩ : ∃ E, E = ownE ss l i := ⟨_, rfl⟩
  obtain ⟨M, hM⟩ : ∃ M, M = mostOf l i := ⟨_, rfl⟩
  rw [← hE2] at hE ⊢
  rw [← hM] at hE hprev hm0
  generalize evenOf ss n.sign = ev at hE hev
  obtain ⟨kd, dp, sg, tn, mi, st, mn, mx⟩ := n
  simp only [] at d1 d2 d3 d4 d5 d6 d7 d8 hev
  obtain ⟨N, hNN⟩ : ∃ N, N = ss.length := ⟨_, rfl⟩
  obtain ⟨m, hm⟩ : ∃ m, m = l.length := ⟨_, rfl⟩
  rw [← hNN] at hE hN hev ⊢
  rw [← hm] at hn ⊢
  have q0 : (i : Int) < (m : Int) := by omega
  obtain ⟨W0, hW0⟩ : ∃ W0, W0 = ((w.alloc (.cells #[.int .i64 P, .slice A N c] 24)).alloc (.cells #[.slice (some ⟨b, o, none⟩) m c2] 27)).alloc (.cells #[.int .i64 kd, .int .i64 dp, .int .i64 sg, .int .i64 tn, .bool mi, .int .i64 st, .int .i64 mn, .int .i64 mx] 49) := ⟨_, rfl⟩
  have hbW : Below w.heap.size w W0 := by rw [hW0]; exact (((Below.refl _ _).alloc (Nat.le_refl _) _).alloc (by simp) _).alloc (by simp; omega) _
  have hzW : W0.heap.size = w.heap.size + 3 := by rw [hW0]; simp
  have f0 : W0.cell? ⟨w.heap.size, 1, none⟩ = some (.slice A N c) := by rw [hW0]; exact cell_old (cell_old (cell_here rfl rfl))
  have f1 : W0.cell? ⟨w.heap.size + 1, 0, none⟩ = some (.slice (some ⟨b, o, none⟩) m c2) := by rw [hW0]; exact cell_old (cell_here (by simp) rfl)
  have fN : NdAt W0 (w.heap.size + 2) 0 ⟨kd, dp, sg, tn, mi, st, mn, mx⟩ := by rw [hW0]; refine ⟨?_, ?_, ?_, ?_, ?_, ?_, ?_, ?_⟩ <;> exact cell_here (by simp) rfl
  have HE := hid hE; have HEV := hid hev; have HPREV := hid hprev; have HPD := hid hpd; have HM0 := hid hm0; have HW0 := hid hW0; have HBW := hid hbW; have HZ := hid hzW; have HFN := hid fN; have HF0 := hid f0; have HF1 := hid f1
  clear hE hev hx hc rs rn hE2 hNN hm hprev hpd hm0 hW0 hbW hzW f0 f1 fN hp hM
  have HBA0 : Hid (∀ o, Below w.heap.size w (W0.alloc o)) := fun o => HBW.out.alloc HBW.out.size o
  go_enter Try.func52, Try.ntmps52
  by_cases hk0 : kd < 1 ∨ 7 < kd
  · have HX : Hid (E = 20) := by rw [HE.out]; exact if_pos hk0
    clear HE HEV HPREV HPD HM0
    go_wp2_with fail
    all_goals first | (exfalso; omega) | (go_ret; exact ⟨by rw [HX.out]; rfl, by rw [← HW0.out]; exact HBW.out⟩)
  · have g1 : decide (kd < 1) = false := decide_eq_false (by omega)
    have g2 : decide (7 < kd) = false := decide_eq_false (by omega)
    replace HE := hid (HE.out.trans (if_neg hk0))
    go_upto_if 22 with (fail)
    rw [← HW0.out]
    obtain ⟨B0, hB0⟩ : ∃ B0, B0 = w.heap.size := ⟨_, rfl⟩
    obtain ⟨B2, hB2⟩ : ∃ B2, B2 = B0 + 1 + 1 := ⟨_, rfl⟩
    rw [← hB0] at HFN HF0 HF1 HZ ⊢
    rw [show B0 + 2 = B2 from hB2.symm] at HFN
    rw [← hB2]
    have hz : B2 < W0.heap.size := by have := HZ.out; omega
    have hz0 : B0 < W0.heap.size := by have := HZ.out; omega
    have hz1 : B0 + 1 < W0.heap.size := by have := HZ.out; omega
    clear hB0 hB2 HW0 d1 d2 d3 d4 d5 d6 d7 d8
    have d1 := HFN.out.kind; have d2 := HFN.out.depth; have d3 := HFN.out.sign; have d4 := HFN.out.turn; have d5 := HFN.out.mir; have d6 := HFN.out.state; have d7 := HFN.out.mn; have d8 := HFN.out.mx
    have f0 := HF0.out; have f1 := HF1.out
    simp only [Nat.zero_add] at d1 d2 d3 d4 d5 d6 d7 d8
    clear HFN HF0 HF1
    by_cases hd : dp < 0 ∨ 4 < dp ∨ M < dp
    · have HX := hid (HE.out.trans (if_pos hd))
      clear HE
      by_cases h0 : i = 0
      · have hm := HM0.out h0
        subst h0
        have hd0 : dp < 0 ∨ 4 < dp ∨ 0 < dp := by omega
        clear HEV HPREV HPD HM0 hm hd
        go_wp2_with fail
        all_goals first | (exfalso; omega) | (go_ret; exact ⟨by rw [HX.out]; rfl, by first | exact HBW.out | exact HBA0.out _⟩)
      · obtain ⟨j, rfl⟩ : ∃ j, i = j + 1 := ⟨i - 1, by omega⟩
        have hpr := HPREV.out j rfl
        have hpd := HPD.out j rfl
        generalize l[j]'(by omega) = p at hpr hpd
        have hx := hpr.1.below HBW.out hb
        have p1 := hx.kind; have p2 := hx.depth; have p3 := hx.sign; have p4 := hx.turn; have p5 := hx.mir; have p6 := hx.state; have p7 := hx.mn; have p8 := hx.mx
        have hM := hpr.2
        obtain ⟨pk, pd, ps, pt, pm, pst, pmn, pmx⟩ := p
        simp only [] at p1 p2 p3 p4 p5 p6 p7 p8 hM hpd
        have HIL := hid fun W => leaf_any pk W
        have hp1 := hpd.1; have hp2 := hpd.2
        clear HEV HPREV HPD HM0 hpr hpd hx
        generalize leafB pk = lf at hM HIL
        cases lf with
        | true =>
          simp only [if_true] at hM
          have hdd : dp < 0 ∨ 4 < dp ∨ pd < dp := by omega
          clear hM hd
          go_wp2_with (go_at_call 21; refine (HIL.out _).mono ?_; rintro e w3 ⟨rfl, rfl⟩)
          all_goals first | (exfalso; omega) | (go_ret; exact ⟨by rw [HX.out]; rfl, by first | exact HBW.out | exact HBA0.out _⟩)
        | false =>
          simp only [Bool.false_eq_true, if_false] at hM
          have hdd : dp < 0 ∨ 4 < dp ∨ pd + 1 < dp := by omega
          clear hM hd
          go_wp2_with (go_at_call 21; refine (HIL.out _).mono ?_; rintro e w3 ⟨rfl, rfl⟩)
          all_goals first | (exfalso; omega) | (go_ret; exact ⟨by rw [HX.out]; rfl, by first | exact HBW.out | exact HBA0.out _⟩)
    · replace HE := hid (HE.out.trans (if_neg hd))
      simp only [] at HE
      have g3 : decide (dp < 0) = false := decide_eq_false (by omega)
      have g4 : decide (4 < dp) = false := decide_eq_false (by omega)
      go_upto_region 4 with (fail)
      go_cut [39] (fun s wx => s = .bool false ∧ W0 = wx)
      case first =>
        by_cases h0 : i = 0
        · have hm := HM0.out h0
          subst h0
          have g5 : decide (0 < dp) = false := decide_eq_false (by omega)
          clear HE HEV HPREV HPD HM0 hm hd
          go_wp2_with fail
          go_meet
          exact ⟨rfl, rfl⟩
        · have g5 : ((i : Int) == 0) = false := by simpa using h0
          have g6 : (i == 0) = false := by simpa using h0
          clear HE HEV HPREV HPD HM0 hd
          go_wp2_with fail
          go_meet
          exact ⟨rfl, rfl⟩
      obtain ⟨rfl, rfl⟩ := hcut
      go_upto_if 41 with (fail)
      go_cut [8] (fun s8 wx => s8 = s8 ∧ Below W0.heap.size W0 wx)
      case first =>
        by_cases h0 : i = 0
        · have hm := HM0.out h0
          subst h0
          have g5 : decide (0 < dp) = false := decide_eq_false (by omega)
          clear HE HEV HPREV HPD HM0 hm hd
          go_wp2_with fail
          go_meet
          exact ⟨trivial, Below.refl _ _⟩
        · obtain ⟨j, rfl⟩ : ∃ j, i = j + 1 := ⟨i - 1, by omega⟩
          have hpr := HPREV.out j rfl
          have hpd := HPD.out j rfl
          generalize l[j]'(by omega) = p at hpr hpd
          have hx := hpr.1.below HBW.out hb
          have p1 := hx.kind; have p2 := hx.depth; have p3 := hx.sign; have p4 := hx.turn; have p5 := hx.mir; have p6 := hx.state; have p7 := hx.mn; have p8 := hx.mx
          have hM := hpr.2
          obtain ⟨pk, pd, ps, pt, pm, pst, pmn, pmx⟩ := p
          simp only [] at p1 p2 p3 p4 p5 p6 p7 p8 hM hpd
          have HIL := hid fun W => leaf_any pk W
          have hp1 := hpd.1; have hp2 := hpd.2
          clear HE HEV HPREV HPD HM0 hpr hpd hx
          have HBL : Hid (∀ o, Below W0.heap.size W0 (W0.alloc o)) := fun o => (Below.refl _ _).alloc (Nat.le_refl _) o
          generalize leafB pk = lf at hM HIL
          cases lf with
          | true =>
            simp only [if_true] at hM
            have g5 : decide (pd < dp) = false := decide_eq_false (by omega)
            have g6 : decide (pd + 1 < dp) = false := decide_eq_false (by omega)
            clear hM hd
            go_wp2_with (go_at_call 21; refine (HIL.out _).mono ?_; rintro e w3 ⟨rfl, rfl⟩)
            go_meet
            exact ⟨trivial, HBL.out _⟩
          | false =>
            simp only [Bool.false_eq_true, if_false] at hM
            have g6 : decide (pd + 1 < dp) = false := decide_eq_false (by omega)
            clear hM hd
            go_wp2_with (go_at_call 21; refine (HIL.out _).mono ?_; rintro e w3 ⟨rfl, rfl⟩)
            go_meet
            exact ⟨trivial, HBL.out _⟩
      case rest =>
        obtain ⟨_, hbx⟩ := hcut
        have d1 := (hbx.cell (p := ⟨B2, 0, none⟩) hz).trans d1
        have d2 := (hbx.cell (p := ⟨B2, 1, none⟩) hz).trans d2
        have d3 := (hbx.cell (p := ⟨B2, 2, none⟩) hz).trans d3
        have d4 := (hbx.cell (p := ⟨B2, 3, none⟩) hz).trans d4
        have d5 := (hbx.cell (p := ⟨B2, 4, none⟩) hz).trans d5
        have d6 := (hbx.cell (p := ⟨B2, 5, none⟩) hz).trans d6
        have d7 := (hbx.cell (p := ⟨B2, 6, none⟩) hz).trans d7
        have d8 := (hbx.cell (p := ⟨B2, 7, none⟩) hz).trans d8
        have e1 := (hbx.cell (p := ⟨B0, 1, none⟩) hz0).trans f0
        have HBX := hid (HBW.out.trans (hbx.mono HBW.out.size))
        have hz : B2 < wc.heap.size := Nat.lt_of_lt_of_le hz hbx.size
        have hz0 : B0 < wc.heap.size := Nat.lt_of_lt_of_le hz0 hbx.size
        have HBA : Hid (∀ o, Below w.heap.size w (wc.alloc o)) := fun o => HBX.out.alloc HBX.out.size o
        clear hbx HPREV HPD HM0 f0 f1 hz1 hd
        by_cases hk1 : kd = 1
        · replace HE := hid (HE.out.trans (if_pos hk1))
          subst hk1
          by_cases hs : sg < 0 ∨ (N : Int) ≤ sg
          · have HX := hid (HE.out.trans (if_pos hs))
            clear HE
            go_wp2_with fail
            all_goals first | (exfalso; omega) | (go_ret; exact ⟨by rw [HX.out]; rfl, by first | exact HBX.out | exact HBA.out _⟩)
          · replace HE := hid (HE.out.trans (if_neg hs))
            obtain ⟨k, rfl⟩ : ∃ k : Nat, sg = k := ⟨sg.toNat, by omega⟩
            have g6 : decide ((k : Int) < 0) = false := decide_eq_false (by omega)
            have g7 : decide ((N : Int) ≤ (k : Int)) = false := decide_eq_false (by omega)
            have g7' : (k : Int) < (N : Int) := by omega
            obtain ⟨b1, o1, rfl, hb1, hce⟩ := HEV.out k (by omega) rfl
            have e2 := (HBX.out.cell (p := ⟨b1, o1 + k * 5 + 3, none⟩) hb1).trans hce
            have hb1c : b1 < wc.heap.size := Nat.lt_of_lt_of_le hb1 HBX.out.size
            clear HEV hce hs
            cases mi with
            | false =>
              by_cases ha : tn < 0 ∨ 3 < tn ∨ st < 0 ∨ 3 < st
              · have HX := hid (HE.out.trans (if_pos (by omega)))
                clear HE
                go_wp2_with fail
                all_goals first | (exfalso; omega) | (go_ret; exact ⟨by rw [HX.out]; rfl, HBA.out _⟩)
              · replace HE := hid (HE.out.trans (if_neg (by simp; omega)))
                have g8 : decide (tn < 0) = false := decide_eq_false (by omega)
                have g9 : decide (3 < tn) = false := decide_eq_false (by omega)
                have g10 : decide (st < 0) = false := decide_eq_false (by omega)
                have g11 : decide (3 < st) = false := decide_eq_false (by omega)
                clear ha
                go_wp2_with fail
                all_goals
                  go_ret
                  refine ⟨congrArg (fun x => Ending.returned (.int .i64 x)) (Eq.trans ?_ HE.out.symm), by first | exact HBX.out | exact HBA.out _ | exact (HBA.out _).drew | exact below_drewN (HBA.out _) _⟩
                  first | rfl | (split <;> first | rfl | (exfalso; omega)) | (simp; done) | (simp; omega)
            | true =>
              cases ev with
              | true =>
                have HX := hid (HE.out.trans (if_pos (by simp)))
                clear HE
                go_wp2_with fail
                all_goals first | (exfalso; omega) | (go_ret; exact ⟨by rw [HX.out]; rfl, HBA.out _⟩)
              | false =>
                by_cases ha : tn < 0 ∨ 3 < tn ∨ st < 0 ∨ 3 < st
                · have HX := hid (HE.out.trans (if_pos (by omega)))
                  clear HE
                  go_wp2_with fail
                  all_goals first | (exfalso; omega) | (go_ret; exact ⟨by rw [HX.out]; rfl, HBA.out _⟩)
                · replace HE := hid (HE.out.trans (if_neg (by simp; omega)))
                  have g8 : decide (tn < 0) = false := decide_eq_false (by omega)
                  have g9 : decide (3 < tn) = false := decide_eq_false (by omega)
                  have g10 : decide (st < 0) = false := decide_eq_false (by omega)
                  have g11 : decide (3 < st) = false := decide_eq_false (by omega)
                  clear ha
                  go_wp2_with fail
                  all_goals
                    go_ret
                    refine ⟨congrArg (fun x => Ending.returned (.int .i64 x)) (Eq.trans ?_ HE.out.symm), by first | exact HBX.out | exact HBA.out _ | exact (HBA.out _).drew | exact below_drewN (HBA.out _) _⟩
                    first | rfl | (split <;> first | rfl | (exfalso; omega)) | (simp; done) | (simp; omega)
        · replace HE := hid (HE.out.trans (if_neg hk1))
          have g6 : (kd == 1) = false := by simpa using hk1
          clear HEV
          by_cases hk6 : kd = 6
          · replace HE := hid (HE.out.trans (if_pos hk6))
            subst hk6
            by_cases hg : mn < 0 ∨ mx < mn ∨ 9 < mx ∨ mx < 1
            · have HX := hid (HE.out.trans (if_pos hg))
              clear HE
              go_wp2_with fail
              all_goals first | (exfalso; omega) | (go_ret; exact ⟨by rw [HX.out]; rfl, HBA.out _⟩)
            · replace HE := hid (HE.out.trans (if_neg hg))
              have g8 : decide (mn < 0) = false := decide_eq_false (by omega)
              have g9 : decide (mx < mn) = false := decide_eq_false (by omega)
              have g10 : decide (9 < mx) = false := decide_eq_false (by omega)
              have g11 : decide (mx < 1) = false := decide_eq_false (by omega)
              clear hg
              cases mi
              all_goals
                go_wp2_with fail
                all_goals
                  go_ret
                  refine ⟨congrArg (fun x => Ending.returned (.int .i64 x)) (Eq.trans ?_ HE.out.symm), by first | exact HBX.out | exact HBA.out _ | exact (HBA.out _).drew | exact below_drewN (HBA.out _) _⟩
                  first | rfl | (split <;> first | rfl | (exfalso; omega)) | (simp; done) | (simp; omega)
          · replace HE := hid (HE.out.trans (if_neg hk6))
            have g7 : (kd == 6) = false := by simpa using hk6
            clear hk1 hk6
            cases mi
            all_goals
              go_wp2_with fail
              all_goals
                  go_ret
                  refine ⟨congrArg (fun x => Ending.returned (.int .i64 x)) (Eq.trans ?_ HE.out.symm), by first | exact HBX.out | exact HBA.out _ | exact (HBA.out _).drew | exact below_drewN (HBA.out _) _⟩
                  first | rfl | (split <;> first | rfl | (exfalso; omega)) | (simp; done) | (simp; omega)
end Go.Proofs.Ytfkcpcdndleboaa
