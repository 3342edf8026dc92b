/- ostraconref02.Splice. -/
import Derived.Test.YtddbnggficlcfaaSpl
import Derived.Test.YtddbnggficlcfaaSub
import Derived.Test.YtddbnggficlcfaaChk1
import Derived.Test.YtddbnggficlcfaaRKids
namespace Go.Proofs.Ytddbnggficlcfaa
open Go.RowKit Go.Shelf
theorem spR_len {l wt : List Nd} {fr t2 : Int} : ∀ n j, (spR l wt fr t2 j).length ≤ (spR l wt fr t2 (j + n)).length
  | 0, j => Nat.le_refl _
  | n + 1, j => by
    refine Nat.le_trans (spR_len n j) ?_
    rw [← Nat.add_assoc, spR_s, List.length_append]
    split
    · rw [List.length_append]; omega
    · omega
theorem fld_text (A : Option Addr) (k c : Nat) (w : World) : (Instr.field 27 (.agg #[.slice A k c]) 0).run Try.prog w = .ok (.slice A k c) w := by kernel_rfl
theorem OutT.stepL {B n m : Nat} {w W W3 w4 : World} {L T : List Nd} {v v4 : Value} (h : OutT B w L v W) (hb : Below W.heap.size W W3) (hn : n = L.length) (hm : m = T.length) (ho : w4.ownsRow (B + 1) 78 8 v4 (n + m) (flatN L ++ flatN T)) (hg : W3.grownBy w4 v.ownBlock) :
    w4.cell? ⟨B, 0, none⟩ = some v ∧ w4.frozen? ⟨B, 0, none⟩ = false ∧ OutT B w (L ++ T) v4 (w4.setCell ⟨B, 0, none⟩ v4) := by
  subst hn hm
  have h3 := h.below hb
  have hne : v.ownBlock ≠ some B := fun e => by have := (h3.own.lt _ e).1; omega
  have hk : w4.heap[B]? = some (.cells #[v] 27 (0, 0)) := (hg.block B (lt_of_block h3.o_) (fun e => hne e.symm)).trans h3.o_
  refine ⟨cell_of_one hk, free_of_one hk, one_setCell hk, ?_, (below_app h3.bel h3.own hg (by omega) (by have := lt_of_block h3.o_; omega)).setCell (by simp) _⟩
  rw [List.length_append, flatN_app]
  exact ownsRow_setCell_other ho (a := ⟨B, 0, none⟩) (fun he => by have := (ho.lt _ he).1; simp at this <;> omega) _
set_option maxRecDepth 100000 in
set_option maxHeartbeats 8000000 in
theorem refSplice_any (P : Int) (ss : List Sg) (l wt : List Nd) (fr t2 : Int) (hN : ss.length ≤ 1000000) (hv : ∀ s ∈ ss, s.vals.length ≤ 1000000) (hn : l.length ≤ 1000000) (hm : wt.length ≤ 1000000) (A A2 A3 : Option Addr) (c c2 c3 : Nat) (w : World) (rs : Sgs w w.heap.size A ss) (rn : Nds w w.heap.size A2 l) (rt : Nds w w.heap.size A3 wt) :
    Calls Try.prog 39 #[.agg #[.int .i64 P, .slice A ss.length c], .agg #[.slice A2 l.length c2], .int .i64 fr, .int .i64 t2, .agg #[.slice A3 wt.length c3]] w (TxtPost (spE P ss l wt fr t2) (spL P ss l wt fr t2) w) := by
  obtain ⟨w1, hw1⟩ : ∃ w1, w1 = (((w.alloc (.cells #[.int .i64 P, .slice A ss.length c] 24)).alloc (.cells #[.slice A2 l.length c2] 27)).alloc (.cells #[.slice A3 wt.length c3] 27)).alloc (.cells #[.slice none 0 0] 27) := ⟨_, rfl⟩
  have hb1 : Below w.heap.size w w1 := by rw [hw1]; exact ((((Below.refl _ _).alloc (Nat.le_refl _) _).alloc (by simp) _).alloc (by simp; omega) _).alloc (by simp; omega) _
  have hz1 : w1.heap.size = w.heap.size + 4 := by rw [hw1]; simp
  have k0 : w1.cell? ⟨w.heap.size, 0, none⟩ = some (.int .i64 P) := by rw [hw1]; exact cell_old (cell_old (cell_old (cell_here rfl rfl)))
  have k1 : w1.cell? ⟨w.heap.size, 1, none⟩ = some (.slice A ss.length c) := by rw [hw1]; exact cell_old (cell_old (cell_old (cell_here rfl rfl)))
  have k2 : w1.cell? ⟨w.heap.size + 1, 0, none⟩ = some (.slice A2 l.length c2) := by rw [hw1]; exact cell_old (cell_old (cell_here (by simp) rfl))
  have k3 : w1.cell? ⟨w.heap.size + 2, 0, none⟩ = some (.slice A3 wt.length c3) := by rw [hw1]; exact cell_old (cell_here (by simp) rfl)
  have k4 : w1.cell? ⟨w.heap.size + 3, 0, none⟩ = some (.slice none 0 0) := by rw [hw1]; exact cell_here (by simp) rfl
  have z4 : w1.frozen? ⟨w.heap.size + 3, 0, none⟩ = false := by rw [hw1]; exact free_here (by simp)
  have HCA := hid (refCheck_any P ss l hN hv hn A A2 c c2 w1 ((rs.below hb1).more (by omega)) ((rn.below hb1).more (by omega)))
  have HCB := hid fun (W : World) (hb : Below w.heap.size w W) => refCheck_any P ss wt hN hv hm A A3 c c3 W ((rs.below hb).more hb.size) ((rt.below hb).more hb.size)
  have HKI := hid fun (h : chkE P ss l = 0) (W : World) (hb : Below w.heap.size w W) => (by
    have := refKids_any l (-1) (by omega) (by omega) (good_of (chkE_zero h).2.2.1).deps hn A2 c2 W ((rn.below hb).more hb.size)
    rw [rkids_eq (good_of (chkE_zero h).2.2.1).wf (by omega) (by omega)] at this
    exact this)
  have HBT := hid fun (h : chkE P ss l = 0) (i : Nat) (hi : i < l.length) (W : World) (hb : Below w.heap.size w W) => belowT_any l i hi hn (good_of (chkE_zero h).2.2.1).deps A2 c2 W ((rn.below hb).more hb.size)
  have HAL := hid fun (h : chkE P ss l = 0) (f t : Nat) (h1 : f ≤ t) (h2 : t ≤ (kidsOf l (-1)).length) => spR_all (good_of (chkE_zero h).2.2.1).wf (wt := wt) h1 h2
  have m1 := sp_a (P := P) (ss := ss) (l := l) (wt := wt) (fr := fr) (t2 := t2); have m2 := sp_b (P := P) (ss := ss) (l := l) (wt := wt) (fr := fr) (t2 := t2); have m3 := sp_c (P := P) (ss := ss) (l := l) (wt := wt) (fr := fr) (t2 := t2)
  have hgl := kidsOf_len (l := l) (node := -1) (by omega)
  obtain ⟨ng, hng⟩ : ∃ ng, ng = (kidsOf l (-1)).length := ⟨_, rfl⟩
  rw [← hng] at m3 hgl HKI HAL
  generalize spL P ss l wt fr t2 = L at m1 m2 m3 ⊢
  generalize spE P ss l wt fr t2 = E at m1 m2 m3 ⊢
  generalize chkE P ss l = CA at HCA m1 m2 m3 HKI HBT HAL
  generalize chkE P ss wt = CB at HCB m2 m3
  have M1 := hid m1; have M2 := hid m2; have M3 := hid m3; have HNG := hid hng
  obtain ⟨N, hNN⟩ : ∃ N, N = ss.length := ⟨_, rfl⟩
  obtain ⟨n, hnn⟩ : ∃ n, n = l.length := ⟨_, rfl⟩
  obtain ⟨m, hmm⟩ : ∃ m, m = wt.length := ⟨_, rfl⟩
  rw [← hNN] at HCA HCB k1 hw1
  rw [← hnn] at HCA k2 hw1 hn hgl HKI HBT
  rw [← hmm] at HCB k3 hw1 hm
  rw [← hNN, ← hnn, ← hmm]
  have HW1 := hid hw1; have HB1 := hid hb1; have HRN := hid rn; have HRT := hid rt; have HNN := hid hnn; have HMM := hid hmm
  have hzp : w.heap.size < w1.heap.size := by omega
  have hzq : w.heap.size + 1 < w1.heap.size := by omega
  have hzr : w.heap.size + 2 < w1.heap.size := by omega
  have hzs : w.heap.size + 3 < w1.heap.size := by omega
  have HK0 := hid fun (wr : World) (h : Below w1.heap.size w1 wr) => (h.cell (p := ⟨w.heap.size, 0, none⟩) hzp).trans k0
  have HK1 := hid fun (wr : World) (h : Below w1.heap.size w1 wr) => (h.cell (p := ⟨w.heap.size, 1, none⟩) hzp).trans k1
  have HK2 := hid fun (wr : World) (h : Below w1.heap.size w1 wr) => (h.cell (p := ⟨w.heap.size + 1, 0, none⟩) hzq).trans k2
  have HK3 := hid fun (wr : World) (h : Below w1.heap.size w1 wr) => (h.cell (p := ⟨w.heap.size + 2, 0, none⟩) hzr).trans k3
  have HK4 := hid fun (wr : World) (h : Below w1.heap.size w1 wr) => (h.cell (p := ⟨w.heap.size + 3, 0, none⟩) hzs).trans k4
  have HZ4 := hid fun (wr : World) (h : Below w1.heap.size w1 wr) => (h.frozen (p := ⟨w.heap.size + 3, 0, none⟩) hzs).trans z4
  have HW : Hid (∀ wr, Below w1.heap.size w1 wr → Below w.heap.size w wr) := fun wr h => hb1.trans (h.mono (by omega))
  clear hw1 hb1 hz1 rs rn rt hv hNN hnn hmm m1 m2 m3 hng
  go_enter Try.func39, Try.ntmps39
  go_upto_region 1 with (fail)
  simp only [Nat.add_assoc, Nat.reduceAdd]
  rw [← HW1.out]
  clear HW1
  obtain ⟨B0, hB0⟩ : ∃ B0, B0 = w.heap.size := ⟨_, rfl⟩
  obtain ⟨B1, hB1⟩ : ∃ B1, B1 = B0 + 1 := ⟨_, rfl⟩
  obtain ⟨B2, hB2⟩ : ∃ B2, B2 = B0 + 2 := ⟨_, rfl⟩
  obtain ⟨B3, hB3⟩ : ∃ B3, B3 = B0 + 3 := ⟨_, rfl⟩
  rw [← hB0, ← hB1] at k2 HK2 hzq
  rw [← hB0, ← hB2] at k3 HK3 hzr
  rw [← hB0, ← hB3] at k4 z4 HK4 HZ4 hzs
  rw [← hB0] at k0 k1 HK0 HK1 hzp
  have HB0 := hid hB0
  rw [← hB0, ← hB1, ← hB2, ← hB3]
  have hlt : w.heap.size ≤ B3 := by omega
  have hlw : w.heap.size ≤ w1.heap.size := HB1.out.size
  have hb0 : B0 < B1 := by omega
  have hb2 : B1 < B2 := by omega
  have hb3 : B2 < B3 := by omega
  clear hB1 hB2 hB0 hB3
  by_cases hCA : CA = 0
  · have f0 : (CA != 0) = false := by simp [hCA]
    replace M2 := hid (M2.out hCA); replace M3 := hid (M3.out hCA)
    replace HKI := hid (HKI.out hCA); replace HBT := hid (HBT.out hCA); replace HAL := hid (HAL.out hCA)
    clear M1
    subst hCA
    go_upto_region 4 with (first | (go_at_call 20; refine HCA.out.mono ?_; rintro e w2 ⟨rfl, hb2'⟩; have HB2 := hid hb2'; clear hb2' HCA k0 k1 k2 k3 k4 z4))
    have q0 := HK0.out w2 HB2.out; have q1 := HK1.out w2 HB2.out; have q3 := HK3.out w2 HB2.out
    by_cases hCB : CB = 0
    · have f1 : (CB != 0) = false := by simp [hCB]
      replace M3 := hid (M3.out hCB)
      clear M2
      subst hCB
      go_upto_region 7 with (first | (go_at_call 20; refine (HCB.out _ (HW.out _ HB2.out)).mono ?_; rintro e w3 ⟨rfl, hb3'⟩; have HB3 := hid (HB2.out.trans (hb3'.mono HB2.out.size)); clear hb3' HCB q0 q1 q3))
      have q2 := HK2.out w3 HB3.out
      go_upto_region 8 with (first | (go_at_call 67; refine (HKI.out _ (HW.out _ HB3.out)).mono ?_; rintro e w4 ⟨v4, rfl, ho4, hb4⟩; obtain ⟨A4, c4, rfl⟩ := own_slice ho4; have HO4 := hid ho4; have HB4 := hid (bnx3 HB3.out hb4); clear ho4 hb4 q2))
      have p4 := HK4.out w4 HB4.out; have z5 := HZ4.out w4 HB4.out
      by_cases hno : fr < 0 ∨ t2 < fr ∨ (ng : Int) < t2
      · obtain ⟨x1, rfl⟩ := M3.out.1 hno
        have X1 := hid x1
        have hcs : decide (fr < 0) = true ∨ (decide (fr < 0) = false ∧ decide (t2 < fr) = true) ∨ (decide (fr < 0) = false ∧ decide (t2 < fr) = false ∧ decide ((ng : Int) < t2) = true) := by simp only [decide_eq_true_eq, decide_eq_false_iff_not]; omega
        clear hno M3 x1
        rcases hcs with e1 | ⟨e1, e2⟩ | ⟨e1, e2, e3⟩
        all_goals
          go_wp2_with fail
          have hq := World.cell?_setCell_same _ _ (.slice none 0 0) p4
          exact bodyPost_ret (v := .tuple #[.agg #[.slice none 0 0], .int .i64 1]) (by simp [results, Try.results39, go_sem, hq]) rfl ⟨.slice none 0 0, rfl, by rw [X1.out]; exact World.ownsRow_nil _ _ _ _, (HW.out _ HB4.out).setCell hlt _⟩
      · have M4 := hid (M3.out.2 hno)
        obtain ⟨f, rfl⟩ : ∃ f : Nat, fr = f := ⟨fr.toNat, by omega⟩
        obtain ⟨t, rfl⟩ : ∃ t : Nat, t2 = t := ⟨t2.toNat, by omega⟩
        have hft : f ≤ t := by omega
        have htg : t ≤ ng := by omega
        have e1 : decide ((f : Int) < 0) = false := decide_eq_false (by omega)
        have e2 : decide ((t : Int) < (f : Int)) = false := decide_eq_false (by omega)
        have e3 : decide ((ng : Int) < (t : Int)) = false := decide_eq_false (by omega)
        have e4 : ¬ ((t : Int) < (f : Int)) := by omega
        have e5 : ¬ ((ng : Int) < (t : Int)) := by omega
        simp only [Int.toNat_natCast] at M4
        have hall := HAL.out f t hft htg
        have hOl := spO_len (l := l) (wt := wt) (f := f) (t := t) hft (by rw [← HNG.out]; omega)
        have hmo := posG_mono' (l := l) (i := f) (j := t) hft (by rw [← HNG.out]; omega)
        have hpt := posG_le (l := l) (i := t) (by rw [← HNG.out]; omega)
        have hOb : (spO l wt f t).length ≤ 2000000 := by rw [hOl, ← HMM.out]; rw [← HNN.out] at hpt ⊢; omega
        have hmx := fun j (h : j ≤ ng + 1) => spR_len (l := l) (wt := wt) (fr := (f : Int)) (t2 := (t : Int)) (ng + 1 - j) j
        have hbd := fun j (h : j ≤ ng + 1) => (show (spR l wt f t j).length ≤ 2000000 from by have := hmx j h; rw [show j + (ng + 1 - j) = ng + 1 by omega, hall] at this; omega)
        have HBD := hid hbd; have HAL2 := hid hall
        clear hno M3 HAL hall hOl hmo hpt hmx hbd
        go_wp2_with fail
        obtain ⟨B, hB⟩ : ∃ B, B = w4.heap.size := ⟨_, rfl⟩
        have hOS := OutT.start hB
        have hZ2 := HB4.out.size
        rw [← hB] at hZ2 ⊢
        have HOS := hid hOS; have HBb := hid hB
        have HL4 := hid fun (W : World) (h : Below w4.heap.size w4 W) (i : Nat) (hi : i < ng) => (show ∃ g, A4 = some ⟨g, 0, none⟩ ∧ W.cell? ⟨g, i, none⟩ = some (.int .i64 (posG l i : Int)) from by
          obtain ⟨g, c9, hv, _, hgl⟩ := own_some HO4.out (by omega)
          simp only [Value.slice.injEq, true_and] at hv
          refine ⟨g, hv.1, ?_⟩
          obtain ⟨hv1, hv2⟩ := hv
          subst hv1
          have h1 := HO4.out.cellAt i (by omega)
          have hil : i < (kidsOf l (-1)).length := by rw [← HNG.out]; exact hi
          have e : (nz (kidsOf l (-1))).getD i 0 = (posG l i : Int) := by rw [posG_at hil]; simp [nz, List.getD_eq_getElem?_getD, hil]
          rw [ints_get (by rw [nz_len]; exact hil), e] at h1
          exact (h.cell (p := ⟨g, i, none⟩) hgl).trans h1)
        clear hB hOS p4 z5
        go_loopw [15] (fun kv wr => ∃ (j : Nat) (v : Value), j ≤ ng + 1 ∧ kv = .int .i64 j ∧ Hid (OutT B w4 (spR l wt f t j) v wr)) (fun kv _ => ng + 1 - (intOf kv).toNat)
        case atStart => exact ⟨0, .slice none 0 0, by omega, rfl, HOS⟩
        case round =>
          obtain ⟨j, v, hj, rfl, hO⟩ := hrel
          have hbw : Below w1.heap.size w1 wr := HB4.out.trans (hO.out.bel.mono hZ2)
          by_cases hjn : j ≤ ng
          · have g0 : decide ((j : Int) ≤ (ng : Int)) = true := decide_eq_true (by omega)
            have g0' : (j : Int) ≤ (ng : Int) := by omega
            have hst := spR_s l wt (f : Int) (t : Int) j
            have hb1' := HBD.out (j + 1) (by omega)
            have hb0' := HBD.out j hj
            obtain ⟨D, hD⟩ : ∃ D, D = (if (j : Int) = (f : Int) then spR l wt f t j ++ wt else spR l wt f t j) := ⟨_, rfl⟩
            rw [← hD] at hst
            have hDl : D.length ≤ 2000000 := by have := congrArg List.length hst; rw [List.length_append] at this; omega
            have HOO := hid hO.out; have HBW0 := hid hbw
            obtain ⟨A5, c5, rfl⟩ := own_slice hO.out.own
            have hoc := hO.out.cell
            have pm0 := hoc.1; have zm0 := hoc.2.1; have hBw := hoc.2.2
            have q6 := HK3.out wr hbw
            have HD := hid hD; have HSS := hid hst
            clear hO hbw hoc hst hD
            go_upto_if 55 with (fail)
            go_cut [15] (fun s15 wx => s15 = .int .i64 j ∧ (∃ vx, Hid (OutT B w4 D vx wx)))
            case first =>
              by_cases hjf : j = f
              · have e6 : ((j : Int) == (f : Int)) = true := by simp [hjf]
                have hDD : D = spR l wt f t j ++ wt := by rw [HD.out, if_pos (by omega)]
                have hDL := congrArg List.length hDD
                rw [List.length_append, ← HMM.out] at hDL
                obtain ⟨nj, hnj⟩ : ∃ nj, nj = (spR l wt f t j).length := ⟨_, rfl⟩
                rw [← hnj] at hDL pm0
                have hOw := HOO.out.own
                have hOq := HOO.out
                rw [← hnj] at hOw hOq
                have HOW := hid hOw; have HOQ := hid hOq; have HNJ := hid hnj
                have HRT2 := hid (show Reads wr w.heap.size 8 A3 m (flatN wt) from by have := HRT.out.below (HW.out _ HBW0.out); unfold Nds at this; rw [← HMM.out] at this; exact this)
                have hz9 : nj + m ≤ 2000000 := by omega
                have HDD := hid hDD
                clear hDD hDL hOw hOq hnj hjf
                go_wp2_with (first | (at_builtin; refine app_rdS rfl (.tmp 57) (.tmp 59) Try.underlying25 Try.infoNode rfl (by decide) (by decide) rfl (B + 1) _ nj (flatN (spR l wt f t j)) rfl HOW.out A3 m c3 w.heap.size (flatN wt) rfl HRT2.out (fun u hu => flatN_one hu) (by omega) (by omega) ?_; intro v8 w8 ho8 hg8; obtain ⟨p9, z9, ho9⟩ := OutT.stepL HOQ.out (Below.refl _ _) HNJ.out HMM.out ho8 hg8; obtain ⟨A8, c8, rfl⟩ := own_slice ho8; have HO9 := hid ho9; clear ho8 hg8 ho9))
                go_meet
                exact ⟨rfl, _, by rw [HDD.out]; exact HO9⟩
              · have e6 : ((j : Int) == (f : Int)) = false := by simp; omega
                have hDD : D = spR l wt f t j := by rw [HD.out, if_neg (by omega)]
                have HDD := hid hDD
                clear hDD hjf
                go_wp2_with fail
                go_meet
                exact ⟨rfl, _, by rw [HDD.out]; exact HOO⟩
            obtain ⟨rfl, vx, hOX⟩ := hcut
            obtain ⟨wm, rfl⟩ : ∃ W, W = wc := ⟨_, rfl⟩
            have hbm : Below w1.heap.size w1 wm := HB4.out.trans (hOX.out.bel.mono hZ2)
            obtain ⟨nm, hnm⟩ : ∃ nm, nm = D.length := ⟨_, rfl⟩
            have hOw := hOX.out.own
            obtain ⟨A6, c6, rfl⟩ := own_slice hOw
            have hOx := hOX.out
            rw [← hnm] at hOw hOx hDl
            have hoc := hOx.cell
            have x0 := hoc.1; have x1 := hoc.2.1
            have HOM := hid hOw; have HOT := hid hOx; have HNM := hid hnm; have HZB := hid hoc.2.2; have HBW := hid hbm
            have q7 := HK2.out wm hbm
            clear pm0 zm0 q6 hOw hOx hoc hOX hnm hbm
            by_cases hcond : j < ng ∧ ((j : Int) < (f : Int) ∨ (t : Int) ≤ (j : Int))
            · have hst : spR l wt f t (j + 1) = D ++ partOf l (posG l j) := by rw [HSS.out, if_pos (by rw [← HNG.out]; exact hcond)]
              obtain ⟨g, rfl, hcell⟩ := HL4.out wm (by have := HOT.out.bel; rw [HBb.out] at this; exact this) j hcond.1
              have hpl := posG_lt (l := l) (i := j) (by rw [← HNG.out]; exact hcond.1)
              have HBB := hid (HBT.out (posG l j) (by rw [HNN.out]; exact hpl))
              obtain ⟨kp, hkp⟩ : ∃ kp, kp = (partOf l (posG l j)).length := ⟨_, rfl⟩
              have hlk := congrArg List.length hst
              rw [List.length_append, ← hkp, ← HNM.out] at hlk
              have hlk2 : nm + kp ≤ 2000000 := by omega
              have HKP := hid hkp; have HST := hid hst
              rw [← hkp] at HBB
              have g2 : (j : Int) < (ng : Int) := by omega
              have g3 : j < ng := hcond.1
              have hcs : (decide (j < f) = true ∧ decide ((j : Int) < (f : Int)) = true) ∨ ((decide (j < f) = false ∧ decide ((j : Int) < (f : Int)) = false) ∧ (decide (t ≤ j) = true ∧ decide ((t : Int) ≤ (j : Int)) = true)) := by
                simp only [decide_eq_true_eq, decide_eq_false_iff_not]; omega
              have HPJ := hid hcell
              have hfd := fun (A : Option Addr) (k c : Nat) (w : World) => fld_text A k c w
              clear hst hkp hlk hpl hcond
              rcases hcs with ⟨d1, d2⟩ | ⟨⟨d1, d2⟩, d3, d4⟩
              all_goals
                go_upto_region 17 with (fail)
                go_region_law (first
                  | (go_simp; go_at_call 73; refine (HBB.out _ (HW.out _ (bnx3 HBW.out (by first | exact (Below.refl _ _).drew | exact Below.refl _ _)))).mono ?_; rintro e w7 ⟨v7, rfl, ho7, hb7⟩; obtain ⟨A7, c7, rfl⟩ := own_slice ho7; have HX7 := hid (show Below wm.heap.size wm w7 from bnx (by first | exact (Below.refl _ _).drew | exact Below.refl _ _) hb7); have HO7 := hid (own_keep HOM.out HX7.out); have HR7 := hid (Reads.of_own ho7); have y1 := (HOT.out.below HX7.out).cell.1; have q7 := HK2.out w7 (bnx3 HBW.out HX7.out); clear ho7 hb7)
                  | (refine step_rdS rfl (.tmp 77) (.tmp 84) Try.underlying25 Try.infoNode rfl (by decide) (by decide) rfl (B + 1) _ nm (flatN D) rfl HO7.out A7 kp c7 w7.heap.size (flatN (partOf l (posG l j))) (by simp [Act.eval, Act.put]) HR7.out (fun u hu => flatN_one hu) (by omega) (by have := HX7.out.size; have := HZB.out; omega) ?_; intro v8 w8 ho8 hg8; obtain ⟨p9, z9, ho9⟩ := OutT.stepL HOT.out HX7.out HNM.out HKP.out ho8 hg8; obtain ⟨A8, c8, rfl⟩ := own_slice ho8; have HO9 := hid ho9; clear ho8 hg8 ho9))
                all_goals
                  go_wp2_with fail
                  go_roundw
                  case rel => exact ⟨j + 1, _, by omega, by go_num, by rw [HST.out]; first | exact HO9 | exact hid (HO9.out.below (Below.refl _ _).drew)⟩
                  case measure => simp [intOf]; omega
            · have hst : spR l wt f t (j + 1) = D := by rw [HSS.out, if_neg (by rw [← HNG.out]; exact hcond), List.append_nil]
              have HST := hid hst
              have hcs : (decide (j < ng) = false ∧ decide ((j : Int) < (ng : Int)) = false) ∨ ((decide (j < ng) = true ∧ decide ((j : Int) < (ng : Int)) = true) ∧ (decide (j < f) = false ∧ decide ((j : Int) < (f : Int)) = false) ∧ (decide (t ≤ j) = false ∧ decide ((t : Int) ≤ (j : Int)) = false)) := by
                simp only [decide_eq_true_eq, decide_eq_false_iff_not]; omega
              clear hst hcond
              rcases hcs with ⟨d1, d2⟩ | ⟨⟨d1, d2⟩, ⟨d3, d4⟩, d5, d6⟩
              all_goals
                go_wp2_with fail
                go_roundw
                case rel => exact ⟨j + 1, _, by omega, by go_num, by rw [HST.out]; exact HOT⟩
                case measure => simp [intOf]; omega
          · obtain rfl : j = ng + 1 := by omega
            have g0 : decide (((ng + 1 : Nat) : Int) ≤ (ng : Int)) = false := decide_eq_false (by omega)
            have hOq := hO.out
            rw [HAL2.out] at hOq
            obtain ⟨A5, c5, rfl⟩ := own_slice hOq.own
            obtain ⟨K, hK⟩ : ∃ K, K = (spO l wt f t).length := ⟨_, rfl⟩
            rw [← hK] at hOq M4
            have hoc := hOq.cell
            have pm0 := hoc.1
            have p4 := HK4.out wr hbw; have z5 := HZ4.out wr hbw
            have HOQ := hid hOq.own; have HBW := hid hbw; have HKL := hid hK
            have hBlt : w.heap.size ≤ B + 1 := by have := (HW.out _ HB4.out).size; rw [HBb.out]; omega
            have hB3 : B3 < B := by rw [HBb.out]; have := HB4.out.size; omega
            have HLT := hid hBlt; have HB3' := hid hB3
            clear hO hOq hoc hbw hBlt hB3
            by_cases hK2 : 200 < K
            · have e6 : decide ((200 : Int) < (K : Int)) = true := decide_eq_true (by omega)
              obtain ⟨x1, rfl⟩ := M4.out.1 hK2
              have X1 := hid x1
              clear x1 M4 hK
              go_wp2_with fail
              have hq := World.cell?_setCell_same _ _ (.slice none 0 0) p4
              exact bodyPost_ret (v := .tuple #[.agg #[.slice none 0 0], .int .i64 2]) (by simp [results, Try.results39, go_sem, hq]) rfl ⟨.slice none 0 0, rfl, by rw [X1.out]; exact World.ownsRow_nil _ _ _ _, (HW.out _ HBW.out).setCell hlt _⟩
            · have e6 : decide ((200 : Int) < (K : Int)) = false := decide_eq_false (by omega)
              obtain ⟨x1, rfl⟩ := M4.out.2 hK2
              have X1 := hid x1
              clear x1 M4 hK
              go_wp2_with fail
              have hq := World.cell?_setCell_same _ _ (.slice A5 K c5) p4
              have h9 := HOQ.out
              rw [← HKL.out] at h9
              have hne : (Value.slice A5 K c5).ownBlock ≠ some B3 := fun he => by have := (h9.lt _ he).1; have := HB3'.out; omega
              have h10 := own_base (ownsRow_setCell_other h9 (a := (⟨B3, 0, none⟩ : Addr)) hne (.slice A5 K c5)) HLT.out
              exact bodyPost_ret (v := .tuple #[.agg #[.slice A5 K c5], .int .i64 0]) (by simp [results, Try.results39, go_sem, hq]) rfl ⟨.slice A5 K c5, rfl, by rw [X1.out, ← HKL.out]; exact h10, (HW.out _ HBW.out).setCell hlt _⟩
    · have f1 : (CB != 0) = true := by simp [hCB]
      obtain ⟨x1, rfl⟩ := M2.out hCB
      have X1 := hid x1
      clear x1 M2 M3
      go_wp2_with (first | (go_at_call 20; refine (HCB.out _ (HW.out _ HB2.out)).mono ?_; rintro e w3 ⟨rfl, hb3'⟩; have HB3 := hid (HB2.out.trans (hb3'.mono HB2.out.size)); have p4 := HK4.out w3 HB3.out; have p5 := HZ4.out w3 HB3.out; clear hb3' HCB q0 q1 q3))
      have hq := World.cell?_setCell_same _ _ (.slice none 0 0) p4
      exact bodyPost_ret (v := .tuple #[.agg #[.slice none 0 0], .int .i64 E]) (by simp [results, Try.results39, go_sem, hq]) rfl ⟨.slice none 0 0, rfl, by rw [X1.out]; exact World.ownsRow_nil _ _ _ _, (HW.out _ HB3.out).setCell hlt _⟩
  · have f0 : (CA != 0) = true := by simp [hCA]
    obtain ⟨x1, rfl⟩ := M1.out hCA
    have X1 := hid x1
    clear x1 M1 M2 M3
    go_wp2_with (first | (go_at_call 20; refine HCA.out.mono ?_; rintro e w2 ⟨rfl, hb2'⟩; have p4 := HK4.out w2 hb2'; have p5 := HZ4.out w2 hb2'; have HB2 := hid hb2'; clear hb2' HCA k0 k1 k2 k3 k4 z4))
    have hq := World.cell?_setCell_same _ _ (.slice none 0 0) p4
    exact bodyPost_ret (v := .tuple #[.agg #[.slice none 0 0], .int .i64 E]) (by simp [results, Try.results39, go_sem, hq]) rfl ⟨.slice none 0 0, rfl, by rw [X1.out]; exact World.ownsRow_nil _ _ _ _, (HW.out _ HB2.out).setCell hlt _⟩
end Go.Proofs.Ytddbnggficlcfaa
