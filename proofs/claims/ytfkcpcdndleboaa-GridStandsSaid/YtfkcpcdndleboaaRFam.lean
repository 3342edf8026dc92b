/- ostraconref02.parent, ostraconref02.family. -/
import Derived.Test.YtfkcpcdndleboaaRKids
import Derived.Test.YtfkcpcdndleboaaFam
import Derived.Outline
import Derived.Deep.DeepCutAuto
namespace Go.Proofs.Ytfkcpcdndleboaa
open Go.RowKit
set_option maxRecDepth 100000 in
set_option maxHeartbeats 2000000 in
theorem parent_any (l : List Nd) (i : Nat) (hi : i < l.length) (hl : l.length ≤ 1000000) (A : Option Addr) (c : Nat) (w : World) (r : Nds w w.heap.size A l) :
    Calls Try.prog 54 #[.agg #[.slice A l.length c], .int .i64 i] w fun e w' => e = .returned (.int .i64 (parOf l i)) ∧ Below w.heap.size w w' := by
  obtain ⟨w1, hw1⟩ : ∃ w1, w1 = w.alloc (.cells #[.slice A l.length c] 27) := ⟨_, rfl⟩
  have hb1 : Below w.heap.size w w1 := by rw [hw1]; exact (Below.refl _ _).alloc (Nat.le_refl _) _
  have c0 : w1.cell? ⟨w.heap.size, 0, none⟩ = some (.slice A l.length c) := by rw [hw1]; exact cell_here rfl rfl
  obtain ⟨b, o, rfl, hb, hc⟩ := (r.below hb1).at (by omega)
  have hdi := (hc i hi).depth
  rw [← dep_at hi] at hdi
  obtain ⟨E, hE⟩ : ∃ E, E = parOf l i := ⟨_, rfl⟩
  rw [← hE]
  unfold parOf at hE
  generalize dep l i = d at hdi hE
  obtain ⟨n, hn⟩ : ∃ n, n = l.length := ⟨_, rfl⟩
  rw [← hn] at hl c0 hw1 ⊢
  have hin : (i : Int) < (n : Int) := by omega
  have HW1 := hid hw1; have HB1 := hid hb1; have HC := hid hc; have HN := hid hn; have HE := hid hE
  clear hw1 hb1 r hn hc hE
  go_enter Try.func54, Try.ntmps54
  go_wp2_with fail
  rw [← HW1.out]
  clear HW1
  obtain ⟨B0, hB0⟩ : ∃ B0, B0 = w.heap.size := ⟨_, rfl⟩
  rw [← hB0] at c0 ⊢
  clear hB0
  go_loopw [5] (fun kv wr => ∃ k : Nat, k ≤ i ∧ kv = .int .i64 ((k : Int) - 1) ∧ Hid (parR l d k = E) ∧ ∃ q, wr = w1.drewN q) (fun kv _ => (intOf kv + 1).toNat)
  case atStart => exact ⟨i, Nat.le_refl _, rfl, HE.out.symm, 0, rfl⟩
  case round =>
    obtain ⟨k, hk, rfl, hP, q, rfl⟩ := hrel
    by_cases h0 : k = 0
    · have hx := hP.out
      subst h0
      unfold parR at hx
      have HX := hid hx
      clear hx hP
      go_wp2_with fail
      go_ret
      exact ⟨by rw [← HX.out]; rfl, below_drewN HB1.out _⟩
    · obtain ⟨j, rfl⟩ : ∃ j, k = j + 1 := ⟨k - 1, by omega⟩
      have hjl : j < l.length := by omega
      have pj := (HC.out j hjl).depth
      rw [← dep_at hjl] at pj
      have hx := hP.out
      unfold parR at hx
      generalize dep l j = dj at pj hx
      have q0 : ((j + 1 : Nat) : Int) - 1 = (j : Int) := by omega
      rw [q0]
      have q1 : (j : Int) < (n : Int) := by omega
      have q2 : (0 : Int) ≤ (j : Int) := by omega
      clear q0
      by_cases hlt : dj < d
      · rw [if_pos hlt] at hx
        have f0 : decide (dj < d) = true := decide_eq_true hlt
        have HX := hid hx
        clear hx hP hlt
        go_wp2_with fail
        go_quiet (fail)
        go_wp2_with fail
        go_ret
        exact ⟨by rw [← HX.out]; rfl, by first | exact below_drewN HB1.out _ | exact below_drewN (below_drewN HB1.out _) _⟩
      · rw [if_neg hlt] at hx
        have f0 : decide (dj < d) = false := decide_eq_false hlt
        have HX := hid hx
        clear hx hP hlt
        go_wp2_with fail
        go_quiet (fail)
        go_wp2_with fail
        go_roundw
        case rel => exact ⟨j, by omega, rfl, HX.out, _, by first | rfl | exact World.drewN_drewN _ _ _⟩
        case measure => first | (simp [intOf]; done) | (simp [intOf]; omega)
def lowOf (k : Int) : Int := if leafB k = true then 0 else if k = 5 then 1 else 2
def highOf (k : Int) : Int := if leafB k = true then 0 else if k = 4 then 2 else 6
theorem famR_iff {l : List Nd} {i : Nat} : famRs l i ↔ ¬ (((kidsOf l (i : Int)).length : Int) < lowOf (kd l i) ∨ highOf (kd l i) < ((kidsOf l (i : Int)).length : Int) ∨ (kd l i = 5 ∧ 0 < dep l i)) ∧
    ¬ (kd l i = 7 ∧ 0 < dep l i ∧ (kd l (parOf l i).toNat ≠ 5 ∨ (kidsOf l (parOf l i)).length ≠ 1)) ∧ ∀ j ∈ kidsOf l (i : Int), kidOk (kd l i) (kd l j) = true := by
  unfold famRs famR lowOf highOf
  generalize (kidsOf l (i : Int)).length = m
  generalize (kidsOf l (parOf l i)).length = pm
  generalize kd l (parOf l i).toNat = pk
  constructor
  · rintro ⟨h1, h2, h3, h4⟩
    refine ⟨?_, ?_, h4⟩
    · cases hl : leafB (kd l i) with
      | true =>
        rw [hl] at h1
        simp only [if_true] at h1 ⊢
        omega
      | false =>
        rw [hl] at h1
        simp only [Bool.false_eq_true, if_false] at h1 ⊢
        by_cases k5 : kd l i = 5
        · have := h2 k5
          rw [if_pos k5] at h1
          rw [if_pos k5, if_neg (by omega)]
          omega
        · rw [if_neg k5] at h1
          rw [if_neg k5]
          by_cases k4 : kd l i = 4
          · rw [if_pos k4] at h1
            rw [if_pos k4]
            omega
          · rw [if_neg k4] at h1
            rw [if_neg k4]
            omega
    · rintro ⟨a, b, c⟩
      have := h3 a b
      omega
  · rintro ⟨h1, h2, h4⟩
    refine ⟨?_, by omega, by omega, h4⟩
    cases hl : leafB (kd l i) with
    | true =>
      rw [hl] at h1
      simp only [if_true] at h1 ⊢
      omega
    | false =>
      rw [hl] at h1
      simp only [Bool.false_eq_true, if_false] at h1 ⊢
      by_cases k5 : kd l i = 5
      · rw [if_pos k5, if_neg (by omega)] at h1
        rw [if_pos k5]
        omega
      · rw [if_neg k5] at h1
        rw [if_neg k5]
        by_cases k4 : kd l i = 4
        · rw [if_pos k4] at h1
          rw [if_pos k4]
          omega
        · rw [if_neg k4] at h1
          rw [if_neg k4]
          omega
theorem kidOk_no {k m : Int} : kidOk k m = false ↔ (k = 4 ∧ m ≠ 1) ∨ ((k = 2 ∨ k = 5 ∨ k = 7) ∧ m = 2) ∨ (k = 3 ∧ m = 3) ∨ (k = 7 ∧ m = 7) := by
  unfold kidOk
  simp only [Bool.not_eq_false', Bool.or_eq_true, decide_eq_true_eq]
  omega
set_option maxRecDepth 100000 in
set_option maxHeartbeats 4000000 in
theorem refFam_any (l : List Nd) (i : Nat) (hw : WfN l) (hd : DepOk l) (hi : i < l.length) (hl : l.length ≤ 1000000) (A : Option Addr) (c : Nat) (w : World) (r0 : Nds w w.heap.size A l) :
    Calls Try.prog 53 #[.agg #[.slice A l.length c], .int .i64 (i : Int), .int .i64 (parOf l i)] w (BoolIs (famRs l i) w) := by
  have hfr := famR_iff (l := l) (i := i)
  have hrk := rkids_eq hw (node := (i : Int)) (by omega) (by omega)
  have hpg := parR_ge (l := l) (d := dep l i) i
  have hrp := rkids_eq hw (node := parOf l i) hpg.1 (by have := hpg.2; unfold parOf; omega)
  have hpar : 0 < dep l i → ∃ p : Nat, parOf l i = p ∧ p < l.length := fun h => by
    obtain ⟨p, h1, h2, _⟩ := par_kid hw hi h
    exact ⟨p, h1, by omega⟩
  have hk1 := fun W (h : Below w.heap.size w W) => refKids_any l (i : Int) (by omega) (by omega) hd hl A c W ((r0.below h).more h.size)
  have hk2 := fun W (h : Below w.heap.size w W) => refKids_any l (parOf l i) hpg.1 (by have := hpg.2; unfold parOf; omega) hd hl A c W ((r0.below h).more h.size)
  have hmem := fun x (h : x ∈ kidsOf l (i : Int)) => kidsOf_mem (l := l) (node := (i : Int)) (by omega) (by omega) h
  have hlen := kidsOf_len (l := l) (node := (i : Int)) (by omega)
  rw [hrk] at hk1
  rw [hrp] at hk2
  obtain ⟨ks, hks⟩ : ∃ ks, ks = kidsOf l (i : Int) := ⟨_, rfl⟩
  obtain ⟨pks, hpks⟩ : ∃ pks, pks = kidsOf l (parOf l i) := ⟨_, rfl⟩
  rw [← hks] at hk1 hmem hlen hfr
  rw [← hpks] at hk2 hfr
  have hpb : -1 ≤ parOf l i ∧ parOf l i < l.length := ⟨hpg.1, by have := hpg.2; unfold parOf; omega⟩
  generalize parOf l i = par at hk2 hpar hfr hpb
  obtain ⟨b, o, rfl, hb, hc⟩ := r0.at (by omega)
  have hx := hc i hi
  rw [kd_at hi, dep_at hi] at hfr
  rw [dep_at hi] at hpar
  generalize l[i]'hi = nd at hx hfr hpar
  obtain ⟨k, dp, sg, tn, mi, st, mn, mx⟩ := nd
  simp only [] at hfr hpar
  obtain ⟨w1, hw1⟩ : ∃ w1, w1 = (w.alloc (.cells #[.slice (some ⟨b, o, none⟩) l.length c] 27)).alloc (.cells #[.int .i64 k, .int .i64 dp, .int .i64 sg, .int .i64 tn, .bool mi, .int .i64 st, .int .i64 mn, .int .i64 mx] 49) := ⟨_, rfl⟩
  have hb1 : Below w.heap.size w w1 := by rw [hw1]; exact ((Below.refl _ _).alloc (Nat.le_refl _) _).alloc (by simp) _
  have hz1 : w1.heap.size = w.heap.size + 2 := by rw [hw1]; simp
  have c0 : w1.cell? ⟨w.heap.size, 0, none⟩ = some (.slice (some ⟨b, o, none⟩) l.length c) := by rw [hw1]; exact cell_old (cell_here rfl rfl)
  have c1 : w1.cell? ⟨w.heap.size + 1, 0, none⟩ = some (.int .i64 k) := by rw [hw1]; exact cell_here (by simp) rfl
  have c2 : w1.cell? ⟨w.heap.size + 1, 1, none⟩ = some (.int .i64 dp) := by rw [hw1]; exact cell_here (by simp) rfl
  have d1 := hx.kind; have d2 := hx.depth; have d3 := hx.sign; have d4 := hx.turn; have d5 := hx.mir; have d6 := hx.state; have d7 := hx.mn; have d8 := hx.mx
  simp only [] at d1 d2 d3 d4 d5 d6 d7 d8
  obtain ⟨n, hn⟩ : ∃ n, n = l.length := ⟨_, rfl⟩
  have hin : (i : Int) < (n : Int) := by omega
  rw [← hn] at hl hlen c0 hw1 hk1 hk2 hpb hpar ⊢
  have HW1 := hid hw1; have HB1 := hid hb1; have HC := hid hc; have HN := hid hn; have HFR := hid hfr; have HPAR := hid hpar; have HK1 := hid hk1; have HK2 := hid hk2; have HM := hid hmem; have HZ1 := hid hz1
  clear hw1 hb1 r0 hn hc hfr hpar hk1 hk2 hmem hrk hrp hks hpks hw hd hx hpg hz1
  go_enter Try.func53, Try.ntmps53
  go_upto_region 2 with (fail)
  rw [← HW1.out]
  have hz1 : w.heap.size + 1 < w1.heap.size := by have := HZ1.out; omega
  have HC0 := hid fun (wr : World) (h : Below w1.heap.size w1 wr) => (h.cell (p := ⟨w.heap.size, 0, none⟩) (by show w.heap.size < _; omega)).trans c0
  have HC1 := hid fun (wr : World) (h : Below w1.heap.size w1 wr) => (h.cell (p := ⟨w.heap.size + 1, 0, none⟩) hz1).trans c1
  have HC2 := hid fun (wr : World) (h : Below w1.heap.size w1 wr) => (h.cell (p := ⟨w.heap.size + 1, 1, none⟩) hz1).trans c2
  have HW : Hid (∀ wr, Below w1.heap.size w1 wr → Below w.heap.size w wr) := fun wr h => HB1.out.trans (h.mono (by omega))
  clear HW1 c1 c2 d1 d2 d3 d4 d5 d6 d7 d8 HZ1
  obtain ⟨B0, hB0⟩ : ∃ B0, B0 = w.heap.size := ⟨_, rfl⟩
  obtain ⟨B1, hB1⟩ : ∃ B1, B1 = B0 + 1 := ⟨_, rfl⟩
  rw [← hB0, ← hB1] at HC1 HC2 hz1
  rw [← hB0] at c0 HC0 ⊢
  rw [← hB1]
  clear hB0 hB1
  go_upto_region 3 with (first | (go_at_call 66; refine (HK1.out _ HB1.out).mono ?_; rintro e w2 ⟨v2, rfl, ho2, hb2⟩; obtain ⟨A2, c2, rfl⟩ := own_slice ho2; have HO2 := hid (Reads.of_own ho2); have HB2 := hid hb2; clear ho2 hb2))
  have p1 := HC1.out w2 HB2.out
  have p2 := HC2.out w2 HB2.out
  clear HK1 c0
  have hlf := fun W => leaf_any k W
  have hLO : lowOf k = if leafB k = true then 0 else if k = 5 then 1 else 2 := rfl
  have hHI : highOf k = if leafB k = true then 0 else if k = 4 then 2 else 6 := rfl
  obtain ⟨lo0, hlo0⟩ : ∃ x : Int, x = if leafB k = true then 0 else 2 := ⟨_, rfl⟩
  obtain ⟨hi0, hhi0⟩ : ∃ x : Int, x = if leafB k = true then 0 else 6 := ⟨_, rfl⟩
  have hl5 : k = 5 → leafB k = false := fun h => by rw [h]; rfl
  have hl4 : k = 4 → leafB k = false := fun h => by rw [h]; rfl
  generalize leafB k = lf at hlf hLO hHI hl5 hl4 hlo0 hhi0
  generalize lowOf k = lo at hLO HFR
  generalize highOf k = hi' at hHI HFR
  have HLF := hid hlf; have HLO := hid hLO; have HHI := hid hHI; have HL5 := hid hl5; have HL4 := hid hl4
  have HLO0 := hid hlo0; have HHI0 := hid hhi0
  clear hlf hLO hHI hl5 hl4 hlo0 hhi0
  go_upto_if 24 with (first | (go_at_call 21; refine (HLF.out _).mono ?_; rintro e w3 ⟨rfl, rfl⟩))
  go_cut [9, 10] (fun s9 s10 wx => s9 = .int .i64 lo0 ∧ s10 = .int .i64 hi0 ∧ w2 = wx)
  case first =>
    cases lf
    all_goals
      go_wp2_with fail
      go_meet
      exact ⟨by rw [HLO0.out]; rfl, by rw [HHI0.out]; rfl, rfl⟩
  obtain ⟨rfl, rfl, rfl⟩ := hcut
  go_upto_if 27 with (fail)
  go_cut [9] (fun s9 wx => s9 = .int .i64 lo ∧ w2 = wx)
  case first =>
    by_cases h5 : k = 5
    · have hl := HL5.out h5
      have hlo : lo = 1 := by rw [HLO.out, hl, if_neg (by simp), if_pos h5]
      have HX := hid hlo
      have f5 : (k == 5) = true := by simpa using h5
      clear h5 hl hlo HFR HPAR
      go_wp2_with fail
      all_goals first | (exfalso; omega) | (go_meet; exact ⟨by rw [HX.out], rfl⟩)
    · have hlo : lo = lo0 := by rw [HLO.out, if_neg h5, HLO0.out]
      have HX := hid hlo
      have f5 : (k == 5) = false := by simpa using h5
      clear hlo HFR HPAR
      go_wp2_with fail
      all_goals first | (exfalso; omega) | (go_meet; exact ⟨by rw [HX.out], rfl⟩)
  obtain ⟨rfl, rfl⟩ := hcut
  go_upto_if 30 with (fail)
  go_cut [10] (fun s10 wx => s10 = .int .i64 hi' ∧ w2 = wx)
  case first =>
    by_cases h4 : k = 4
    · have hl := HL4.out h4
      have hlo : hi' = 2 := by rw [HHI.out, hl, if_neg (by simp), if_pos h4]
      have HX := hid hlo
      have f5 : (k == 4) = true := by simpa using h4
      clear h4 hl hlo HFR HPAR
      go_wp2_with fail
      all_goals first | (exfalso; omega) | (go_meet; exact ⟨by rw [HX.out], rfl⟩)
    · have hlo : hi' = hi0 := by rw [HHI.out, if_neg h4, HHI0.out]
      have HX := hid hlo
      have f5 : (k == 4) = false := by simpa using h4
      clear hlo HFR HPAR
      go_wp2_with fail
      all_goals first | (exfalso; omega) | (go_meet; exact ⟨by rw [HX.out], rfl⟩)
  obtain ⟨rfl, rfl⟩ := hcut
  clear HLF HLO HHI HL5 HL4
  obtain ⟨x1, hx1⟩ : ∃ x : Bool, (x = true ↔ ((ks.length : Int) < lo ∨ hi' < (ks.length : Int) ∨ (k = 5 ∧ 0 < dp))) := ⟨decide _, decide_eq_true_iff⟩
  obtain ⟨x2, hx2⟩ : ∃ x : Bool, (x = true ↔ (k = 7 ∧ 0 < dp ∧ (kd l par.toNat ≠ 5 ∨ pks.length ≠ 1))) := ⟨decide _, decide_eq_true_iff⟩
  have hfr := HFR.out
  rw [← hx1, ← hx2] at hfr
  obtain ⟨m, hm⟩ : ∃ m, m = ks.length := ⟨_, rfl⟩
  rw [← hm] at hx1 hlen ⊢
  have HX1 := hid hx1; have HX2 := hid hx2; have HMM := hid hm
  replace HFR := hid hfr
  clear hfr hx1 hx2 hm
  have hs2 : w1.heap.size ≤ w2.heap.size := HB2.out.size
  go_upto_region 11 with (fail)
  go_cut [50] (fun s50 wx => s50 = .bool x1 ∧ w2 = wx)
  case first =>
    go_wp2_with fail
    all_goals
      go_meet
      refine ⟨congrArg Value.bool ?_, rfl⟩
      rw [Bool.eq_iff_iff]
      refine Iff.trans ?_ HX1.out.symm
      simp only [Bool.or_eq_true, decide_eq_true_eq, true_iff]
      omega
  obtain ⟨rfl, rfl⟩ := hcut
  cases x1 with
  | true =>
    have HNO : Hid (¬ famRs l i) := fun h => (HFR.out.1 h).1 rfl
    have HWW := hid (HW.out _ HB2.out)
    clear HX1 HX2 HFR
    go_wp2_with fail
    go_ret
    exact ⟨⟨_, rfl, iff_of_false (by simp) HNO.out⟩, HWW.out⟩
  | false =>
    clear HX1
    go_upto_region 13 with (fail)
    go_cut [74] (fun s74 wx => s74 = .bool x2 ∧ Below w2.heap.size w2 wx)
    case first =>
      have p0 := HC0.out w2 HB2.out
      by_cases h7 : k = 7 ∧ 0 < dp
      · obtain ⟨h7a, h7b⟩ := h7
        obtain ⟨p, hpp, hpn⟩ := HPAR.out h7b
        subst hpp
        have hpl : p < l.length := by rw [← HN.out]; exact hpn
        have hpk := ((HC.out p hpl).below (HW.out _ HB2.out) hb).kind
        rw [← kd_at hpl] at hpk
        have hx2 := HX2.out
        rw [Int.toNat_natCast] at hx2
        have hq : (p : Int) < (n : Int) := by omega
        generalize kd l p = pk at hpk hx2
        subst h7a
        have f1 : decide (0 < dp) = true := decide_eq_true h7b
        have HK := hid (HK2.out w2 (HW.out _ HB2.out))
        by_cases h5 : pk = 5
        · have f5 : (pk != 5) = false := by simp [h5]
          have hx3 : x2 = true ↔ pks.length ≠ 1 := hx2.trans ⟨fun h => by omega, fun h => ⟨rfl, h7b, .inr h⟩⟩
          have HX3 := hid hx3
          clear hx2 hx3 HX2 h5 HPAR HFR
          go_wp2_with (first | (go_at_call 66; refine HK.out.mono ?_; rintro e w3 ⟨v3, rfl, ho3, hb3⟩; obtain ⟨A3, c3, rfl⟩ := own_slice ho3; have HB3 := hid hb3; clear ho3 hb3))
          all_goals
            go_meet
            refine ⟨congrArg Value.bool ?_, HB3.out⟩
            rw [Bool.eq_iff_iff]
            refine Iff.trans ?_ HX3.out.symm
            simp
            try omega
        · have f5 : (pk != 5) = true := by simp [h5]
          have hx3 : x2 = true := hx2.2 ⟨rfl, h7b, .inl h5⟩
          have HX3 := hid hx3
          clear hx2 hx3 HX2 h5 HPAR HFR
          go_wp2_with fail
          go_meet
          exact ⟨congrArg Value.bool HX3.out.symm, Below.refl _ _⟩
      · have hx3 : x2 = false := by
          cases hxx : x2 with
          | false => rfl
          | true => exact absurd (HX2.out.1 hxx) (fun h => h7 ⟨h.1, h.2.1⟩)
        have HX3 := hid hx3
        clear hx3 HX2 HPAR HFR
        by_cases h7a : k = 7
        · have f7 : (k == 7) = true := by simpa using h7a
          have f8 : decide (0 < dp) = false := decide_eq_false (fun h => h7 ⟨h7a, h⟩)
          clear h7
          go_wp2_with fail
          all_goals first | (exfalso; omega) | (go_meet; exact ⟨congrArg Value.bool HX3.out.symm, Below.refl _ _⟩)
        · have f7 : (k == 7) = false := by simpa using h7a
          clear h7 h7a
          go_wp2_with fail
          go_meet
          exact ⟨congrArg Value.bool HX3.out.symm, Below.refl _ _⟩
    obtain ⟨rfl, hbx⟩ := hcut
    have HBX := hid (HB2.out.trans (hbx.mono HB2.out.size))
    have HO3 := hid (HO2.out.below hbx)
    have hs3 : w2.heap.size ≤ wc.heap.size := hbx.size
    cases x2 with
    | true =>
      have HNO : Hid (¬ famRs l i) := fun h => (HFR.out.1 h).2.1 rfl
      have HWW := hid (HW.out _ HBX.out)
      clear HX2 HFR hbx HPAR
      go_wp2_with fail
      go_ret
      exact ⟨⟨_, rfl, iff_of_false (by simp) HNO.out⟩, HWW.out⟩
    | false =>
      have HALL : Hid (famRs l i ↔ ∀ j ∈ ks, kidOk k (kd l j) = true) := HFR.out.trans ⟨fun h => h.2.2, fun h => ⟨by simp, by simp, h⟩⟩
      have p0 := HC0.out wc HBX.out
      have p1 := HC1.out wc HBX.out
      have HWW := hid (HW.out _ HBX.out)
      clear HX2 HFR hbx HPAR HK2 HC0 HC1 HC2 p2
      go_wp2_with fail
      go_loopw [11] (fun jv wr => ∃ j : Nat, j ≤ m ∧ jv = .int .i64 j ∧ Hid (∀ x ∈ ks.take j, kidOk k (kd l x) = true) ∧ ∃ q, wr = wc.drewN q) (fun jv _ => m - (intOf jv).toNat)
      case atStart => exact ⟨0, by omega, rfl, hid (fun x hx => by simp at hx), 0, rfl⟩
      case round =>
        obtain ⟨j, hj, rfl, hP, q, rfl⟩ := hrel
        by_cases hjm : j < m
        · have hjl : j < ks.length := by rw [← HMM.out]; exact hjm
          obtain ⟨b2, o2, hA2, hb2, hrow⟩ := Rd.at (l := nz ks) (by rw [← nz_len] at HO3; exact HO3.out) (by rw [nz_len]; omega)
          subst hA2
          have r1 := hrow j (by rw [nz_len]; exact hjl)
          rw [nth_nz hjl] at r1
          have hx : ks.getD j 0 = ks[j]'hjl := by rw [List.getD_eq_getElem?_getD, List.getElem?_eq_getElem hjl]; rfl
          rw [hx] at r1
          have hxm := HM.out (ks[j]'hjl) (List.getElem_mem hjl)
          have hok : kidOk k (kd l (ks[j]'hjl)) = true → ∀ x ∈ ks.take (j + 1), kidOk k (kd l x) = true := fun h x hx => by
            rw [List.take_add_one, List.getElem?_eq_getElem hjl] at hx
            rcases List.mem_append.1 hx with hx | hx
            · exact hP.out x hx
            · simp at hx
              rw [hx]; exact h
          have hno : kidOk k (kd l (ks[j]'hjl)) = false → ¬ famRs l i := fun h h2 => by
            have := HALL.out.1 h2 _ (List.getElem_mem hjl)
            rw [h] at this
            cases this
          generalize ks[j]'hjl = x at r1 hxm hok hno
          have hxl : x < l.length := hxm.2
          have hkx := ((HC.out x hxl).below HWW.out hb).kind
          rw [← kd_at hxl] at hkx
          have hqx : (x : Int) < (n : Int) := by rw [HN.out]; omega
          have hqj : (j : Int) < (m : Int) := by omega
          have hkn := kidOk_no (k := k) (m := kd l x)
          generalize kd l x = kx at hkx hok hno hkn
          have HOK := hid hok; have HNO := hid hno
          clear hx hrow hok hno hxm hP
          cases hko : kidOk k kx with
          | false =>
            have hbad := hkn.1 hko
            have HX := hid (HNO.out hko)
            clear hkn hko HOK HNO HALL
            go_wp2_with fail
            go_quiet (fail)
            go_wp2_with fail
            all_goals first | (exfalso; omega) | (go_ret; exact ⟨⟨_, rfl, iff_of_false (by simp) HX.out⟩, below_drewN HWW.out _⟩) | (exfalso; clear hkx r1; simp only [beq_eq_false_iff_ne, ne_eq] at *; omega)
          | true =>
            have hgood : ¬ ((k = 4 ∧ kx ≠ 1) ∨ ((k = 2 ∨ k = 5 ∨ k = 7) ∧ kx = 2) ∨ (k = 3 ∧ kx = 3) ∨ (k = 7 ∧ kx = 7)) := fun h => by rw [hkn.2 h] at hko; cases hko
            have HX := hid (HOK.out hko)
            have hg1 : k = 4 → kx = 1 := by omega
            have hg2 : k = 2 ∨ k = 5 ∨ k = 7 → kx ≠ 2 := by omega
            have hg3 : k = 3 → kx ≠ 3 := by omega
            have hg4 : k = 7 → kx ≠ 7 := by omega
            have HG1 := hid hg1; have HG2 := hid hg2; have HG3 := hid hg3; have HG4 := hid hg4
            clear hkn hko HOK HNO HALL hgood hg1 hg2 hg3 hg4
            go_wp2_with fail
            go_quiet (fail)
            go_wp2_with fail
            all_goals first
              | (go_roundw; (case rel => exact ⟨j + 1, by omega, by go_num, HX.out, _, by first | rfl | exact World.drewN_drewN _ _ _⟩); (case measure => simp [intOf]; omega))
              | (exfalso; have hg1 := HG1.out; have hg2 := HG2.out; have hg3 := HG3.out; have hg4 := HG4.out; omega)
              | (exfalso; have hg1 := HG1.out; have hg2 := HG2.out; have hg3 := HG3.out; have hg4 := HG4.out; clear hkx r1; simp only [beq_iff_eq, ne_eq] at *; omega)
        · obtain rfl : m = j := by omega
          have HX : Hid (famRs l i) := HALL.out.2 fun x hx => hP.out x (by rw [HMM.out, List.take_length]; exact hx)
          clear hP HALL
          go_wp2_with fail
          go_ret
          exact ⟨⟨_, rfl, iff_of_true (by simp) HX.out⟩, below_drewN HWW.out _⟩
end Go.Proofs.Ytfkcpcdndleboaa
