/- ostraconref02.Rings. -/
import Derived.Test.YtddbnggficlcfaaRings
namespace Go.Proofs.Ytddbnggficlcfaa
open Go.RowKit Go.Shelf
set_option maxRecDepth 100000 in
set_option maxHeartbeats 8000000 in
theorem refRings_any (P : Int) (ss : List Sg) (l : List Nd) (hN : ss.length ≤ 1000000) (hv : ∀ s ∈ ss, s.vals.length ≤ 1000000) (hn : l.length ≤ 1000000) (A A2 : Option Addr) (c c2 : Nat) (w : World) (rs : Sgs w w.heap.size A ss) (rn0 : Nds w w.heap.size A2 l) :
    Calls Try.prog 33 #[.agg #[.int .i64 P, .slice A ss.length c], .agg #[.slice A2 l.length c2]] w (RngPost 72 (chkE P ss l) (rngL P ss l) w) := by
  obtain ⟨w1, hw1⟩ : ∃ w1, w1 = (w.alloc (.cells #[.int .i64 P, .slice A ss.length c] 24)).alloc (.cells #[.slice A2 l.length c2] 27) := ⟨_, rfl⟩
  have hb1 : Below w.heap.size w w1 := by rw [hw1]; exact ((Below.refl _ _).alloc (Nat.le_refl _) _).alloc (by simp) _
  have hz1 : w1.heap.size = w.heap.size + 2 := by rw [hw1]; simp
  have c0 : w1.cell? ⟨w.heap.size, 0, none⟩ = some (.int .i64 P) := by rw [hw1]; exact cell_old (cell_here rfl rfl)
  have c1 : w1.cell? ⟨w.heap.size, 1, none⟩ = some (.slice A ss.length c) := by rw [hw1]; exact cell_old (cell_here rfl rfl)
  have c3 : w1.cell? ⟨w.heap.size + 1, 0, none⟩ = some (.slice A2 l.length c2) := by rw [hw1]; exact cell_here (by simp) rfl
  have HCK := hid (refCheck_any P ss l hN hv hn A A2 c c2 w1 ((rs.below hb1).more (by omega)) ((rn0.below hb1).more (by omega)))
  have HKI := hid fun (h : chkE P ss l = 0) (W : World) (hb : Below w.heap.size w W) => by
    have := refKids_any l (-1) (by omega) (by omega) (good_of (chkE_zero h).2.2.1).deps hn A2 c2 W ((rn0.below hb).more hb.size)
    rw [rkids_eq (good_of (chkE_zero h).2.2.1).wf (by omega) (by omega)] at this
    exact this
  have HLV := hid fun (h : chkE P ss l = 0) (x : Nat) (hx : x < l.length) (W : World) (hb : Below w.heap.size w W) => refLeaves_any l (good_of (chkE_zero h).2.2.1).wf (good_of (chkE_zero h).2.2.1).deps hn (good_hon h) A2 c2 l.length (x : Int) W (by omega) (by omega) (by omega) ((rn0.below hb).more hb.size)
  have HTP := hid fun (h : chkE P ss l = 0) (x r : Nat) (hx : x < l.length) => rgs_top (good_of (chkE_zero h).2.2.1).wf (good_of (chkE_zero h).2.2.1).deps (fun i hi => ((chkE_zero h).2.2.2 i hi).2.1) l.length x r (by omega) hx
  have m1 := rngL_bad (P := P) (ss := ss) (l := l); have m2 := rngL_ok (P := P) (ss := ss) (l := l)
  rw [spans_rn] at m2
  have hkm := fun x (h : x ∈ kidsOf l (-1)) => (kidsOf_mem (l := l) (by omega) (by omega) h).2
  have hkl := kidsOf_len (l := l) (node := -1) (by omega)
  have hdn : (dn l l.length (kidsOf l (-1)) (kidsOf l (-1)).length).length ≤ l.length := by
    have h1 := lvs_no (l := l) (f := l.length) (node := -1) (fun h => by have := h.1; omega)
    have h2 : ordK l (-1) = kidsOf l (-1) := if_neg (fun h => by have := h.1; omega)
    rw [h2] at h1
    rw [← h1]
    exact leaves_len l
  generalize kidsOf l (-1) = ks at HKI m2 hkm hkl hdn
  generalize rngL P ss l = L at m1 m2 ⊢
  generalize chkE P ss l = CE at HCK HLV HKI HTP m1 m2
  have M1 := hid m1; have M2 := hid m2; have HKM := hid hkm
  clear m1 m2 hkm
  generalize ss.length = N at HCK c1 hw1 ⊢
  obtain ⟨n, hnn⟩ : ∃ n, n = l.length := ⟨_, rfl⟩
  rw [← hnn] at HCK HLV HKI HTP HKM M2 c3 hw1 hkl hdn hn ⊢
  have HW1 := hid hw1; have HB1 := hid hb1; have HR := hid rn0; have HNN := hid hnn; have HDN := hid hdn
  have hzz : w.heap.size + 1 < w1.heap.size := by omega
  have HC3 := hid fun (wr : World) (h : Below w1.heap.size w1 wr) => (h.cell (p := ⟨w.heap.size + 1, 0, none⟩) hzz).trans c3
  have HW : Hid (∀ wr, Below w1.heap.size w1 wr → Below w.heap.size w wr) := fun wr h => hb1.trans (h.mono (by omega))
  clear hw1 hb1 hz1 rs rn0 hv hN hnn hdn
  go_enter Try.func33, Try.ntmps33
  go_upto_region 1 with (fail)
  rw [← HW1.out]
  clear HW1
  obtain ⟨B0, hB0⟩ : ∃ B0, B0 = w.heap.size := ⟨_, rfl⟩
  obtain ⟨B1, hB1⟩ : ∃ B1, B1 = B0 + 1 := ⟨_, rfl⟩
  rw [← hB0, ← hB1] at c3 HC3 hzz
  rw [← hB0] at c0 c1 ⊢
  rw [← hB1]
  clear hB0 hB1
  by_cases hCE : CE = 0
  · have f0 : (CE != 0) = false := by simp [hCE]
    have x2 := M2.out hCE
    replace HLV := hid (HLV.out hCE); replace HKI := hid (HKI.out hCE); replace HTP := hid (HTP.out hCE)
    have X2 := hid x2
    clear M1 M2 x2
    subst hCE
    go_wp2_with (first | (go_at_call 20; refine HCK.out.mono ?_; rintro e w2 ⟨rfl, hb2⟩; have p2 := HC3.out w2 hb2; have HC2 := hid (HKI.out w2 (HW.out _ hb2)); have HB2 := hid hb2; clear hb2 HCK c0 c1 c3) | (go_at_call 67; refine HC2.out.mono ?_; rintro e w5 ⟨v5, rfl, ho5, hb5⟩; obtain ⟨A5, c5, rfl⟩ := own_slice ho5; have HL5 := hid (show Rd w5 w5.heap.size A5 (nz ks) from by unfold Rd; rw [nz_len]; exact Reads.of_own ho5); have HB5 := hid (HB2.out.trans (hb5.mono HB2.out.size)); clear ho5 hb5))
    obtain ⟨m, hm⟩ : ∃ m, m = ks.length := ⟨_, rfl⟩
    have hnl : (nz ks).length = m := by rw [nz_len, hm]
    rw [← hm] at hkl ⊢
    have HM := hid hm; have HNL := hid hnl
    clear hm hnl HC2 p2
    go_loopw [7, 9, 10] (fun vv av kv wr => ∃ (k : Nat) (RR : List (Int × Int)) (a : Nat), k ≤ m ∧ kv = .int .i64 k ∧ av = .int .i64 (a : Int) ∧ Hid (RR = (rn l n ks 0 k).map spOf) ∧ Hid (a = (dn l n ks k).length) ∧ Hid (RR.length ≤ k) ∧ Hid (wr.ownsRow w5.heap.size 72 2 vv RR.length (flat2 RR)) ∧ Hid (Below w5.heap.size w5 wr)) (fun _ _ kv _ => m - (intOf kv).toNat)
    case atStart => exact ⟨0, [], 0, by omega, rfl, rfl, hid rfl, hid rfl, Nat.zero_le _, World.ownsRow_nil _ _ _ _, Below.refl _ _⟩
    case round =>
      obtain ⟨k, RR, a, hk, rfl, rfl, hRR, ha, hrl, hO, hB⟩ := hrel
      by_cases hkm : k < m
      · have hb2 := HB5.out.trans (hB.out.mono HB5.out.size)
        have p3 := HC3.out wr hb2
        have hkl' : k < ks.length := by rw [← HM.out]; exact hkm
        obtain ⟨b5, o5, rfl, hb5, hc5⟩ := HL5.out.at (by rw [HNL.out]; omega)
        have p4 := hc5 k (by rw [HNL.out]; exact hkm)
        rw [nth_nz hkl', List.getD_eq_getElem?_getD, List.getElem?_eq_getElem hkl', Option.getD_some] at p4
        have hx := HKM.out ks[k] (List.getElem_mem hkl')
        have hds := dn_s (l := l) (f := n) hkl'
        have hrs := rn_s (l := l) (f := n) (r := 0) hkl'
        have hdl := dn_le (l := l) (f := n) hkl'
        have hdn := HDN.out
        rw [Nat.zero_add, HTP.out ks[k] _ hx, ← ha.out] at hrs
        have hdx := congrArg List.length hds
        rw [List.length_append, ← ha.out] at hdx
        rw [← ha.out] at hdl
        have hlv := HLV.out ks[k] hx wr.drew (HW.out _ hb2).drew
        obtain ⟨b, o, rfl, hbB, hc⟩ := HR.out.at (by rw [← HNN.out]; omega)
        have hkc := fun (W : World) (h : Below w1.heap.size w1 W) => ((HW.out _ h).cell (p := ⟨b, o + ks[k] * 8, none⟩) hbB).trans (hc ks[k] (by rw [← HNN.out]; exact hx)).kind
        rw [← kd_at] at hkc
        generalize ks[k] = x at p4 hx hrs hdl hdx hlv hkc
        generalize lvs l n (x : Int) = E0 at hrs hdl hdx hlv
        obtain ⟨e, he⟩ : ∃ e, e = E0.length := ⟨_, rfl⟩
        rw [← he] at hrs hdl hdx
        have hae : a + e ≤ 1000000 := by omega
        generalize kd l x = kx at hrs hkc
        have HP5 := hid fun (W : World) (h : Below w5.heap.size w5 W) => (h.cell (p := ⟨b5, o5 + k, none⟩) hb5).trans p4
        have q5 := HP5.out wr hB.out
        obtain ⟨A6, c6, rfl⟩ := own_slice hO.out
        have hrr2 : kx = 5 → RR ++ [((a : Int), (a : Int) + (e : Int))] = (rn l n ks 0 (k + 1)).map spOf := fun h => by
          rw [hrs, List.map_append, ← hRR.out, if_pos h]
          simp [spOf]
        have hrr3 : ¬ kx = 5 → RR = (rn l n ks 0 (k + 1)).map spOf := fun h => by
          rw [hrs, List.map_append, ← hRR.out, if_neg h]
          simp
        have HKC := hid hkc; have HLV2 := hid hlv; have HDX := hid hdx.symm; have HE := hid he; have HB := hid hB.out; have HO2 := hid hO.out; have HB52 := hid hb2
        have HR2 := hid hrr2; have HR3 := hid hrr3
        have hrl' : RR.length ≤ k := hrl.out
        have g0 : (k : Int) < (m : Int) := by omega
        have hxn : (x : Int) < (n : Int) := by omega
        obtain ⟨nr, hnr⟩ : ∃ nr, nr = RR.length := ⟨_, rfl⟩
        rw [← hnr] at HO2 hrl' ⊢
        have HNR := hid hnr
        clear hkc hlv hdx he hB hO hb2 hrs hrl hds hdn hdl hc5 hb5 hkl' hc p4 hRR ha hrr2 hrr3 hnr
        go_wp2_with fail
        go_cut [11] (fun s11 wx => s11 = .int .i64 (e : Int) ∧ Hid (Below wr.heap.size wr wx))
        case first =>
          go_region_law (first
            | (go_simp; go_at_call 69; refine (HLV2.out).mono ?_; rintro e' w7 ⟨v7, rfl, ho7, hb7⟩; rw [← HE.out] at ho7; obtain ⟨A7, c7, rfl⟩ := own_slice ho7; have HB7 := hid ((Below.refl _ _).drew.trans hb7); clear ho7 hb7))
          all_goals
            go_wp2_with fail
            go_meet
            exact ⟨rfl, HB7⟩
        obtain ⟨rfl, HB7⟩ := hcut
        have hbc := HB.out.trans (HB7.out.mono HB.out.size)
        have q3 := HC3.out wc (HB5.out.trans (hbc.mono HB5.out.size))
        have q6 := HP5.out wc hbc
        have q8 := HKC.out wc (HB5.out.trans (hbc.mono HB5.out.size))
        clear p3 q5
        by_cases h5 : kx = 5
        · have f5 : (kx == 5) = true := by simp [h5]
          have HR4 := hid (HR2.out h5)
          have HBC := hid hbc
          have HOA := hid fun (q : Nat) (X : Obj) => own_keep HO2.out ((below_drewN HB7.out q).alloc HB7.out.size X)
          have HBA := hid fun (q : Nat) (X : Obj) => (below_drewN hbc q).alloc hbc.size X
          clear HR2 HR3 h5 hbc HLV2 HKC HP5
          go_wp2_with fail
          go_quiet (fail)
          go_wp2_with (first | (at_builtin; refine app_two Try.underlying50 Try.infoPair rfl (.tmp 43) (.tmp 49) rfl w5.heap.size _ nr RR rfl (HOA.out _ _) ⟨wc.heap.size, 0, none⟩ ((a : Int), (a : Int) + (e : Int)) rfl (cell_news (wc.drewN _) (cells2 ((a : Int), (a : Int) + (e : Int))) 72) (by omega) (HBA.out _ _).size ?_; intro v4 w4 ho4 hg4; have HB4 := hid (below_app (HBA.out _ _) (HOA.out _ _) hg4 (Nat.le_refl _) (HBA.out _ _).size); obtain ⟨A8, c8, rfl⟩ := own_slice ho4; have HO4 := hid ho4; clear ho4 hg4))
          go_roundw
          case rel => exact ⟨k + 1, RR ++ [((a : Int), (a : Int) + (e : Int))], a + e, by omega, by go_num, by go_num, HR4, HDX, by rw [List.length_append, ← HNR.out]; exact hid (show nr + 1 ≤ k + 1 by omega), by rw [List.length_append, ← HNR.out]; exact HO4, HB4⟩
          case measure => simp [intOf]; omega
        · have f5 : (kx == 5) = false := by simp [h5]
          have HR4 := hid (HR3.out h5)
          have HBC := hid fun (q : Nat) => below_drewN hbc q
          have HO4 := hid fun (q : Nat) => own_keep HO2.out (below_drewN HB7.out q)
          clear HR2 HR3 h5 hbc HLV2 HKC HP5
          go_wp2_with fail
          go_quiet (fail)
          go_wp2_with fail
          go_roundw
          case rel => exact ⟨k + 1, RR, a + e, by omega, by go_num, by go_num, HR4, HDX, by rw [← HNR.out]; exact hid (show nr ≤ k + 1 by omega), by rw [← HNR.out]; exact HO4.out _, HBC.out _⟩
          case measure => simp [intOf]; omega
      · obtain rfl : m = k := by omega
        have g0 : decide (m < m) = false := by simp
        have hO2 := own_base hO.out (HW.out _ HB5.out).size
        have HF := hid hRR.out
        have HO2 := hid hO2
        clear hO hO2 hRR ha hrl
        go_wp2_with fail
        go_ret2
        exact ⟨_, rfl, by rw [X2.out, ← HM.out, ← HF.out]; exact HO2.out, HW.out _ (HB5.out.trans (hB.out.mono HB5.out.size))⟩
  · have f0 : (CE != 0) = true := by simp [hCE]
    have x2 := M1.out hCE
    have X2 := hid x2
    clear x2
    clear M1 M2 hCE
    go_wp2_with (first | (go_at_call 20; refine HCK.out.mono ?_; rintro e w2 ⟨rfl, hb2⟩; have HB2 := hid hb2; clear hb2 HCK c0 c1 c3))
    go_ret2
    exact ⟨.slice none 0 0, rfl, by rw [X2.out]; exact World.ownsRow_nil _ _ _ _, HW.out _ HB2.out⟩
end Go.Proofs.Ytddbnggficlcfaa
