/- WALK: the document's Scale (printed by gen_scalen.py). -/
import Derived.Test.YtfkcpcdndleboaaStandR
import Derived.Test.YtfkcpcdndleboaaPlainR
import Derived.Test.YtfkcpcdndleboaaStdL
namespace Go.Proofs.Ytfkcpcdndleboaa
open Go.RowKit
/-- What Scale answers. -/
noncomputable def sclV (P : Int) (ss : List Sg) (l : List Nd) (d wd nu : Int) : Fr × Int :=
  if begE P ss l d wd = 0 then (if 0 ≤ nu ∧ nu < (kidsOf (plR l l.length) (-1)).length then (gS ss (plR l l.length) (decide (d ≤ 2)) ((kidsOf (plR l l.length) (-1)).getD nu.toNat 0), 0) else (⟨0, 0⟩, 1)) else (⟨0, 0⟩, begE P ss l d wd)
/-- The plain text in a box. -/
def TxB (W : World) (b : Nat) (v : Value) : Prop := W.heap[b]? = some (.cells #[v] 27 (0, 0))
theorem TxB.cells {W : World} {b : Nat} {v : Value} (h : TxB W b v) : W.cell? ⟨b, 0, none⟩ = some v := by unfold TxB at h; simp [World.cell?, h]
theorem TxB.below {W W' : World} {b : Nat} {v : Value} (h : TxB W b v) (hb : Below W.heap.size W W') : TxB W' b v := (hb.block b (lt_of_block h)).trans h
set_option maxRecDepth 100000 in
set_option maxHeartbeats 4000000 in
theorem ScaleN_any (P : Int) (ss : List Sg) (l : List Nd) (hN : ss.length ≤ 1000000) (hv : ∀ s ∈ ss, s.vals.length ≤ 1000000) (hn : l.length ≤ 1000000) (d wd nu : Int) (A A2 : Option Addr) (c c2 : Nat) (w : World) (rs : Sgs w w.heap.size A ss) (rn : Nds w w.heap.size A2 l) :
    Calls Try.prog 34 #[.agg #[.int .i64 P, .slice A ss.length c], .agg #[.slice A2 l.length c2], .agg #[.int .i64 d, .int .i64 wd], .int .i64 nu] w fun e w' => e = .returned (.tuple #[.agg #[.int .i64 (sclV P ss l d wd nu).1.n, .int .i64 (sclV P ss l d wd nu).1.d], .int .i64 (sclV P ss l d wd nu).2]) ∧ Below w.heap.size w w' := by
  obtain ⟨w1, hw1⟩ : ∃ w1, w1 = (((w.alloc (.cells #[.int .i64 P, .slice A ss.length c] 24)).alloc (.cells #[.slice A2 l.length c2] 27)).alloc (.cells #[.int .i64 d, .int .i64 wd] 31)).alloc (.cells #[.int .i64 0, .int .i64 0] 52) := ⟨_, rfl⟩
  have hb1 : Below w.heap.size w w1 := by rw [hw1]; exact ((((Below.refl _ _).alloc (Nat.le_refl _) _).alloc (by simp) _).alloc (by simp; omega) _).alloc (by simp; omega) _
  have hz1 : w1.heap.size = w.heap.size + 4 := by rw [hw1]; simp
  have hdoc : DocB w1 w.heap.size P (.slice A ss.length c) (.slice A2 l.length c2) d wd := by rw [hw1]; exact (DocB.new _ _ _ _ _ _).below ((Below.refl _ _).alloc (Nat.le_refl _) _) (by simp)
  have hfr : FrB w1 (w.heap.size + 3) ⟨0, 0⟩ := by rw [hw1]; exact nw_blk (by simp)
  have HC := hid fun (W : World) (h : Below w1.heap.size w1 W) => (show DocC W w.heap.size (w.heap.size + 1) (w.heap.size + 2) P (.slice A ss.length c) (.slice A2 l.length c2) d wd ∧ FrB W (w.heap.size + 3) ⟨0, 0⟩ from ⟨(hdoc.below h (by omega)).cells, (h.block _ (by omega)).trans hfr⟩)
  have HBO := hid (both_any P ss l hN hv hn d wd A A2 c c2 w1 ((rs.below hb1).more hb1.size) ((rn.below hb1).more hb1.size))
  have HPL := hid fun (W : World) (h : Below w1.heap.size w1 W) => refPlain_any P ss l hN hv hn A A2 c c2 W ((rs.below (hb1.trans (h.mono hb1.size))).more (Nat.le_trans hb1.size h.size)) ((rn.below (hb1.trans (h.mono hb1.size))).more (Nat.le_trans hb1.size h.size))
  have HRS := hid fun (W : World) (h : Below w1.heap.size w1 W) => (show Sgs W W.heap.size A ss from (rs.below (hb1.trans (h.mono hb1.size))).more (Nat.le_trans hb1.size h.size))
  have hbad : begE P ss l d wd ≠ 0 → sclV P ss l d wd nu = (⟨0, 0⟩, begE P ss l d wd) := fun h => if_neg h
  have hok : begE P ss l d wd = 0 → sclV P ss l d wd nu = if 0 ≤ nu ∧ nu < (kidsOf (plR l l.length) (-1)).length then (gS ss (plR l l.length) (decide (d ≤ 2)) ((kidsOf (plR l l.length) (-1)).getD nu.toNat 0), 0) else (⟨0, 0⟩, 1) := fun h => if_pos h
  have hpln : begE P ss l d wd = 0 → chkE P ss l = 0 ∧ plnL P ss l = plR l l.length ∧ Pln P ss (plR l l.length) := fun h => ⟨(beg_ok h).1, plnL_ok (beg_ok h).1, pln_of (beg_ok h).1⟩
  have HW1 := hid hw1; have HB1 := hid hb1; have HZ1 := hid hz1
  have HV := hid hv
  by_cases hb : begE P ss l d wd = 0
  · obtain ⟨hck, hpe, hp⟩ := hpln hb
    have hk := hok hb
    rw [hb] at HBO
    rw [hpe, hck] at HPL
    generalize plR l l.length = pl at *
    have hnp := hp.len
    have HKC := hid fun (W : World) (A3 : Option Addr) (c3 : Nat) (r : Nds W W.heap.size A3 pl) => refKids_any pl (-1) (by omega) (by omega) hp.val.good.deps (by omega) A3 c3 W r
    rw [rkids_eq hp.val.good.wf (by omega) (by omega)] at HKC
    have HSC := hid fun (k : Nat) (hk : k < pl.length) (A3 : Option Addr) (c3 : Nat) (W : World) (h : Below w1.heap.size w1 W) (r : Nds W W.heap.size A3 pl) => rscale_any P ss pl d wd hp hN HV.out k hk A A3 c c3 W (HRS.out W h) r
    have HKM := hid fun (j : Nat) (hj : j < (kidsOf pl (-1)).length) => (show (kidsOf pl (-1)).getD j 0 < pl.length ∧ (ints (nz (kidsOf pl (-1))))[j]? = some (.int .i64 ((kidsOf pl (-1)).getD j 0)) from by
      have e : (kidsOf pl (-1)).getD j 0 = (kidsOf pl (-1))[j] := by rw [List.getD_eq_getElem?_getD, List.getElem?_eq_getElem hj]; rfl
      rw [e]
      exact ⟨grp_mem (List.getElem_mem hj), by unfold ints nz; simp [List.getElem?_eq_getElem hj]⟩)
    have HKL := hid (show (ints (nz (kidsOf pl (-1)))).length = (kidsOf pl (-1)).length from by unfold ints nz; simp)
    have hml := kidsOf_len (l := pl) (node := -1) (by omega)
    have HK := hid hk
    generalize sclV P ss l d wd nu = V at *
    obtain ⟨m, hm⟩ : ∃ m, m = (kidsOf pl (-1)).length := ⟨_, rfl⟩
    rw [← hm] at HKC HKM HKL HK hml
    generalize ints (nz (kidsOf pl (-1))) = KV at HKC HKM HKL
    generalize decide (d ≤ 2) = rows at *
    clear hk hbad hok hpln hb hck hpe hw1 hb1 hdoc hfr rs rn hv HV HRS hp hm
    generalize ss.length = N at *
    generalize l.length = n at *
    go_enter Try.func34, Try.ntmps34
    go_upto_region 1 with (fail)
    simp only [Nat.add_assoc, Nat.reduceAdd]
    rw [← HW1.out]
    clear HW1
    obtain ⟨B0, hB0⟩ : ∃ B0, B0 = w.heap.size := ⟨_, rfl⟩
    obtain ⟨B1, hB1⟩ : ∃ B1, B1 = B0 + 1 := ⟨_, rfl⟩
    obtain ⟨B2, hB2⟩ : ∃ B2, B2 = B0 + 2 := ⟨_, rfl⟩
    obtain ⟨B3, hB3⟩ : ∃ B3, B3 = B0 + 3 := ⟨_, rfl⟩
    rw [← hB0] at HC
    rw [← hB1, ← hB2, ← hB3] at HC
    rw [← hB0]
    try rw [← hB1]
    try rw [← hB2]
    try rw [← hB3]
    have HB3' := hid (show w.heap.size ≤ B3 by omega)
    clear hB0 hB1 hB2 hB3 hz1
    have hc := (HC.out w1 (Below.refl _ _)).1
    have p0 := hc.c0; have p1 := hc.c1; have p2 := hc.c2; have p3 := hc.c3; have p4 := hc.c4
    clear hc
    go_upto_region 5 with (first | (go_at_call 49; refine HBO.out.mono ?_; rintro e w2 ⟨rfl, hb2⟩; have HB2 := hid hb2; have hc := (HC.out w2 hb2).1; clear p0 p1 p2 p3 p4; have p0 := hc.c0; have p1 := hc.c1; have p2 := hc.c2; clear hc hb2) | (go_at_call 20; refine (HPL.out w2 HB2.out).mono ?_; rintro e w3 ⟨v3, rfl, ho3, hb3⟩; obtain ⟨A3, c3, rfl⟩ := own_slice ho3; have HO3 := hid ho3; have HB3 := hid (bnext0 HB2.out hb3); have HSZ3 := hid hb3.size; clear p0 p1 p2 ho3 hb3))
    obtain ⟨w4, hw4⟩ : ∃ w4, w4 = w3.alloc (.cells #[.slice A3 pl.length c3] 27) := ⟨_, rfl⟩
    obtain ⟨b11, hb11⟩ : ∃ b11, b11 = w3.heap.size := ⟨_, rfl⟩
    have htx : TxB w4 b11 (.slice A3 pl.length c3) := by rw [hw4, hb11]; exact nw_blk rfl
    have hb34 : Below w3.heap.size w3 w4 := by rw [hw4]; exact (Below.refl _ _).alloc (Nat.le_refl _) _
    have HRN4 := hid fun (W : World) (h : Below w4.heap.size w4 W) => (show Nds W W.heap.size A3 pl from Reads.more ((Reads.of_own HO3.out).below (hb34.trans (h.mono hb34.size))) (Nat.le_trans hb34.size h.size))
    have HB4 := hid (bnext0 HB3.out hb34)
    rw [← hw4, ← hb11]
    have HTX := hid htx
    clear hw4 hb11 htx hb34 HO3 HSZ3
    have p2 := HTX.out.cells
    go_upto_region 6 with (first | (go_at_call 66; refine (HKC.out w4 A3 c3 (HRN4.out w4 (Below.refl _ _))).mono ?_; rintro e w5 ⟨v5, rfl, ho5, hb5⟩; obtain ⟨A5, c5, rfl⟩ := own_slice ho5; have HO5 := hid (Reads.of_own ho5); have HB45 := hid hb5; have HB5 := hid (bnext0 HB4.out hb5); have HTX5 := hid (HTX.out.below hb5); clear ho5 hb5))
    clear p2
    by_cases hnu : 0 ≤ nu ∧ nu < (m : Int)
    · have HX := hid (HK.out.trans (if_pos hnu))
      obtain ⟨n0, n1⟩ := hnu
      obtain ⟨j, rfl⟩ := Int.eq_ofNat_of_zero_le n0
      have hjm : j < m := by omega
      obtain ⟨hkl, hkv⟩ := HKM.out j hjm
      rw [Int.toNat_natCast] at HX
      generalize (kidsOf pl (-1)).getD j 0 = k at HX hkl hkv
      have HS := hid fun (W : World) (h : Below w4.heap.size w4 W) => HSC.out k hkl A3 c3 W (bnext0 HB4.out h) (HRN4.out W h)
      obtain ⟨b5, o5, rfl, hb5, hc5⟩ := Reads.at0 HO5.out (by omega) (by rw [HKL.out]; omega)
      have HKV := hid (hc5 j _ hkv)
      have HK5 := hid hb5
      have e1 : decide ((j : Int) < 0) = false := decide_eq_false (by omega)
      have e2 : decide ((m : Int) ≤ (j : Int)) = false := decide_eq_false (by omega)
      have e3 : decide (m ≤ j) = false := decide_eq_false (by omega)
      clear n0 hkl hkv hc5 hb5 HKM HK HSC HPL HBO HKC HO5
      generalize gS ss pl rows k = s at *
      go_upto_region 8 with (fail)
      refine region_perm 47 [0, 1, 2, 3, 4, 5, 6, 7] [8, 9] (w0 := w5) (by kernel_rfl) (by kernel_rfl) rfl (Below.refl _ _) ?_
      apply Exists.intro
      refine ⟨?hq, ?ht⟩
      case hq =>
        intro wb hwb
        have HWB := hid hwb
        have HBZ := hid fun y : BW wb.heap.size wb => (show Below w4.heap.size w4 y.val from bnext0 (bnext0 HB45.out HWB.out) y.ok)
        have HZ := hid (below_class (wb := wb) (Nat.le_refl wb.heap.size) fun z => HS.out z.val (HBZ.out z))
        have cz := fun z : BW wb.heap.size wb => (HC.out z.val (bnext0 HB4.out (HBZ.out z))).1
        have j0 := fun z => (cz z).c0; have j1 := fun z => (cz z).c1; have j3 := fun z => (cz z).c3; have j4 := fun z => (cz z).c4
        have j2 := fun z : BW wb.heap.size wb => ((HTX5.out.below HWB.out).below z.ok).cells
        have hkz := fun z : BW wb.heap.size wb => (z.ok.cell (p := ⟨b5, o5 + j, none⟩) (Nat.lt_of_lt_of_le HK5.out HWB.out.size)).trans ((HWB.out.cell (p := ⟨b5, o5 + j, none⟩) HK5.out).trans HKV.out)
        clear cz hwb
        simp only [List.map_cons, List.map_nil, List.getD_cons_zero, List.getD_cons_succ]
        repeat (go_big_quiet_step (first | (go_at_call 67; with_reducible exact (HZ.out _))))
        refine wpQuiet_nil ?_
        exact rfl
      case ht =>
        intro w7 hb7
        have hB7 := bnext0 HB5.out hb7
        obtain ⟨⟨k1, k2⟩, ⟨k3, k4⟩, _⟩ := (HC.out w7 hB7).2.cells
        have HB7 := hid hB7
        simp only [List.map_cons, List.map_nil, List.getD_cons_zero, List.getD_cons_succ]
        clear hb7 hB7
        go_wp2_with fail
        have t1 := World.cell?_setCell_same _ _ (.int .i64 s.n) k1
        exact bodyPost_ret (v := .tuple #[.agg #[.int .i64 s.n, .int .i64 s.d], .int .i64 0]) (by simp [results, Try.results34, go_sem, k2, t1]) rfl ⟨by rw [HX.out], ((HB1.out.trans (HB7.out.mono HB1.out.size)).setCell HB3'.out _).setCell HB3'.out _⟩
    · have HX := hid (HK.out.trans (if_neg hnu))
      obtain ⟨⟨k1, k2⟩, ⟨k3, k4⟩, _⟩ := (HC.out w5 HB5.out).2.cells
      clear HKM HK HSC HPL HBO HKC HO5
      by_cases h0 : nu < 0
      · have e1 : decide (nu < 0) = true := decide_eq_true h0
        clear h0 hnu
        go_wp2_with fail
        have t1 := World.cell?_setCell_same _ _ (.int .i64 0) k1
        exact bodyPost_ret (v := .tuple #[.agg #[.int .i64 0, .int .i64 0], .int .i64 1]) (by simp [results, Try.results34, go_sem, k2, t1]) rfl ⟨by rw [HX.out], ((HB1.out.trans (HB5.out.mono HB1.out.size)).setCell HB3'.out _).setCell HB3'.out _⟩
      · have e1 : decide (nu < 0) = false := decide_eq_false h0
        have e2 : decide ((m : Int) ≤ nu) = true := decide_eq_true (by omega)
        clear h0 hnu
        go_wp2_with fail
        have t1 := World.cell?_setCell_same _ _ (.int .i64 0) k1
        exact bodyPost_ret (v := .tuple #[.agg #[.int .i64 0, .int .i64 0], .int .i64 1]) (by simp [results, Try.results34, go_sem, k2, t1]) rfl ⟨by rw [HX.out], ((HB1.out.trans (HB5.out.mono HB1.out.size)).setCell HB3'.out _).setCell HB3'.out _⟩
  · have HX := hid (hbad hb)
    have e0 : (begE P ss l d wd != 0) = true := by simpa using hb
    generalize begE P ss l d wd = BE at *
    generalize sclV P ss l d wd nu = V at *
    generalize ss.length = N at *
    generalize l.length = n at *
    clear hbad hok hpln hb hw1 hb1 hdoc hfr rs rn hv HV HRS HPL
    go_enter Try.func34, Try.ntmps34
    go_upto_region 1 with (fail)
    simp only [Nat.add_assoc, Nat.reduceAdd]
    rw [← HW1.out]
    clear HW1
    obtain ⟨B0, hB0⟩ : ∃ B0, B0 = w.heap.size := ⟨_, rfl⟩
    obtain ⟨B1, hB1⟩ : ∃ B1, B1 = B0 + 1 := ⟨_, rfl⟩
    obtain ⟨B2, hB2⟩ : ∃ B2, B2 = B0 + 2 := ⟨_, rfl⟩
    obtain ⟨B3, hB3⟩ : ∃ B3, B3 = B0 + 3 := ⟨_, rfl⟩
    rw [← hB0] at HC
    rw [← hB1, ← hB2, ← hB3] at HC
    rw [← hB0]
    try rw [← hB1]
    try rw [← hB2]
    try rw [← hB3]
    have HB3' := hid (show w.heap.size ≤ B3 by omega)
    clear hB0 hB1 hB2 hB3 hz1
    have hc := (HC.out w1 (Below.refl _ _)).1
    have p0 := hc.c0; have p1 := hc.c1; have p2 := hc.c2; have p3 := hc.c3; have p4 := hc.c4
    clear hc
    go_wp2_with (first | (go_at_call 49; refine HBO.out.mono ?_; rintro e w2 ⟨rfl, hb2⟩; have HB2 := hid hb2; obtain ⟨⟨k1, k2⟩, ⟨k3, k4⟩, _⟩ := (HC.out w2 hb2).2.cells; clear p0 p1 p2 p3 p4 hb2))
    have t1 := World.cell?_setCell_same _ _ (.int .i64 0) k1
    exact bodyPost_ret (v := .tuple #[.agg #[.int .i64 0, .int .i64 0], .int .i64 BE]) (by simp [results, Try.results34, go_sem, k2, t1]) rfl ⟨by rw [HX.out], ((HB1.out.trans (HB2.out.mono HB1.out.size)).setCell HB3'.out _).setCell HB3'.out _⟩
end Go.Proofs.Ytfkcpcdndleboaa

/- WALK: the program's Scale (printed by gen_scalep.py). -/
namespace Go.Proofs.Ytfkcpcdndleboaa
open Go.RowKit
set_option maxRecDepth 100000 in
set_option maxHeartbeats 4000000 in
theorem Scale_any (P : Int) (ss : List Sg) (l : List Nd) (hN : ss.length ≤ 1000000) (hv : ∀ s ∈ ss, s.vals.length ≤ 1000000 ∧ s.vals.length ≤ s.vc) (hn : l.length ≤ 1000000) (d wd nu : Int) (A A2 : Option Addr) (c c2 : Nat) (w : World) (rs : Sgs w w.heap.size A ss) (rn : Nds w w.heap.size A2 l) :
    Calls Try.prog 33 #[.agg #[.int .i64 P, .slice A ss.length c], .agg #[.slice A2 l.length c2], .agg #[.int .i64 d, .int .i64 wd], .int .i64 nu] w fun e w' => e = .returned (.tuple #[.agg #[.int .i64 (sclV P ss l d wd nu).1.n, .int .i64 (sclV P ss l d wd nu).1.d], .int .i64 (sclV P ss l d wd nu).2]) ∧ Below w.heap.size w w' := by
  obtain ⟨w1, hw1⟩ : ∃ w1, w1 = (((w.alloc (.cells #[.int .i64 P, .slice A ss.length c] 24)).alloc (.cells #[.slice A2 l.length c2] 27)).alloc (.cells #[.int .i64 d, .int .i64 wd] 31)).alloc (.cells #[.int .i64 0, .int .i64 0] 52) := ⟨_, rfl⟩
  have hb1 : Below w.heap.size w w1 := by rw [hw1]; exact ((((Below.refl _ _).alloc (Nat.le_refl _) _).alloc (by simp) _).alloc (by simp; omega) _).alloc (by simp; omega) _
  have hz1 : w1.heap.size = w.heap.size + 4 := by rw [hw1]; simp
  have hdoc : DocB w1 w.heap.size P (.slice A ss.length c) (.slice A2 l.length c2) d wd := by rw [hw1]; exact (DocB.new _ _ _ _ _ _).below ((Below.refl _ _).alloc (Nat.le_refl _) _) (by simp)
  have hfr : FrB w1 (w.heap.size + 3) ⟨0, 0⟩ := by rw [hw1]; exact nw_blk (by simp)
  have HC := hid fun (W : World) (h : Below w1.heap.size w1 W) => (show DocC W w.heap.size (w.heap.size + 1) (w.heap.size + 2) P (.slice A ss.length c) (.slice A2 l.length c2) d wd ∧ FrB W (w.heap.size + 3) ⟨0, 0⟩ from ⟨(hdoc.below h (by omega)).cells, (h.block _ (by omega)).trans hfr⟩)
  have HBG := hid (begin_any P ss l hN hv hn d wd A A2 c c2 w1 ((rs.below hb1).more hb1.size) ((rn.below hb1).more hb1.size))
  have HRS := hid fun (W : World) (h : Below w1.heap.size w1 W) => (show Sgs W W.heap.size A ss from (rs.below (hb1.trans (h.mono hb1.size))).more (Nat.le_trans hb1.size h.size))
  have hbad : begE P ss l d wd ≠ 0 → sclV P ss l d wd nu = (⟨0, 0⟩, begE P ss l d wd) := fun h => if_neg h
  have hok : begE P ss l d wd = 0 → sclV P ss l d wd nu = if 0 ≤ nu ∧ nu < (kidsOf (plR l l.length) (-1)).length then (gS ss (plR l l.length) (decide (d ≤ 2)) ((kidsOf (plR l l.length) (-1)).getD nu.toNat 0), 0) else (⟨0, 0⟩, 1) := fun h => if_pos h
  have hpln : begE P ss l d wd = 0 → chkE P ss l = 0 ∧ plnL P ss l = plR l l.length ∧ Pln P ss (plR l l.length) := fun h => ⟨(beg_ok h).1, plnL_ok (beg_ok h).1, pln_of (beg_ok h).1⟩
  have HW1 := hid hw1; have HB1 := hid hb1; have HZ1 := hid hz1
  have HV := hid hv
  by_cases hb : begE P ss l d wd = 0
  · obtain ⟨hck, hpe, hp⟩ := hpln hb
    have hk := hok hb
    have hpg := page_ok (beg_ok hb).2
    have HBG2 := hid (HBG.out.mono fun (e : Ending) (w' : World) (h : BegPost P ss l d wd A c w1 e w') => (show ∃ (A3 : Option Addr) (c3 : Nat), e = .returned (.tuple #[.agg #[.int .i64 P, .slice A ss.length c, .slice A3 (plR l l.length).length c3, .bool (decide (d ≤ 2))], .int .i64 0]) ∧ Nds w' w'.heap.size A3 (plR l l.length) ∧ Below w1.heap.size w1 w' from by
      obtain ⟨h1, h2 | ⟨h2, A3, c3, h3, h4⟩⟩ := h
      · exact absurd hb h2.1
      · exact ⟨A3, c3, h3, h4, h1⟩))
    clear HBG
    generalize plR l l.length = pl at *
    have hnp := hp.len
    have HGR := hid fun (A3 : Option Addr) (c3 : Nat) (W : World) (h : Below w1.heap.size w1 W) (r : Nds W W.heap.size A3 pl) => groups_any P ss pl (decide (d ≤ 2)) hp hN HV.out wd (by omega) hpg.2.2 A A3 c c3 W (HRS.out W h) r
    have HGL := hid (show (grpL ss pl (decide (d ≤ 2)) wd).length = (kidsOf pl (-1)).length from grpL_len)
    have HGT := hid fun (j : Nat) (hj : j < (grpL ss pl (decide (d ≤ 2)) wd).length) => (show (flatG (grpL ss pl (decide (d ≤ 2)) wd))[j * 5 + 1]? = some (.int .i64 (gS ss pl (decide (d ≤ 2)) ((kidsOf pl (-1)).getD j 0)).n) ∧ (flatG (grpL ss pl (decide (d ≤ 2)) wd))[j * 5 + 2]? = some (.int .i64 (gS ss pl (decide (d ≤ 2)) ((kidsOf pl (-1)).getD j 0)).d) from by
      obtain ⟨h2, _, h4⟩ := grpL_get hj
      have e : (kidsOf pl (-1)).getD j 0 = (kidsOf pl (-1))[j] := by rw [List.getD_eq_getElem?_getD, List.getElem?_eq_getElem h2]; rfl
      rw [flatG_get _ j 1 hj (by decide), flatG_get _ j 2 hj (by decide), h4, e]
      exact ⟨rfl, rfl⟩)
    have HFL := hid (flatG_len (grpL ss pl (decide (d ≤ 2)) wd))
    have hml := kidsOf_len (l := pl) (node := -1) (by omega)
    have HK := hid hk
    generalize sclV P ss l d wd nu = V at *
    obtain ⟨m, hm⟩ : ∃ m, m = (kidsOf pl (-1)).length := ⟨_, rfl⟩
    rw [← hm] at HGL HK hml
    rw [HGL.out] at HGT HGR HFL
    generalize flatG (grpL ss pl (decide (d ≤ 2)) wd) = FG at *
    clear HGL
    generalize decide (d ≤ 2) = rows at *
    clear hk hbad hok hpln hb hck hpe hw1 hb1 hdoc hfr rs rn hv HV HRS hp hm
    generalize ss.length = N at *
    generalize l.length = n at *
    go_enter Try.func33, Try.ntmps33
    go_upto_region 1 with (fail)
    simp only [Nat.add_assoc, Nat.reduceAdd]
    rw [← HW1.out]
    clear HW1
    obtain ⟨B0, hB0⟩ : ∃ B0, B0 = w.heap.size := ⟨_, rfl⟩
    obtain ⟨B1, hB1⟩ : ∃ B1, B1 = B0 + 1 := ⟨_, rfl⟩
    obtain ⟨B2, hB2⟩ : ∃ B2, B2 = B0 + 2 := ⟨_, rfl⟩
    obtain ⟨B3, hB3⟩ : ∃ B3, B3 = B0 + 3 := ⟨_, rfl⟩
    rw [← hB0] at HC
    rw [← hB1, ← hB2, ← hB3] at HC
    rw [← hB0]
    try rw [← hB1]
    try rw [← hB2]
    try rw [← hB3]
    have HB3' := hid (show w.heap.size ≤ B3 by omega)
    clear hB0 hB1 hB2 hB3 hz1
    have hc := (HC.out w1 (Below.refl _ _)).1
    have p0 := hc.c0; have p1 := hc.c1; have p2 := hc.c2; have p3 := hc.c3; have p4 := hc.c4
    clear hc
    go_upto_region 2 with (first | (go_at_call 46; refine HBG2.out.mono ?_; rintro e w2 ⟨A3, c3, rfl, hr, hb2⟩; have HRN := hid hr; have HB2 := hid hb2; clear p0 p1 p2 p3 p4 hr hb2))
    have hb23 : Below w2.heap.size w2 (w2.alloc (.cells #[.int .i64 P, .slice A N c, .slice A3 pl.length c3, .bool rows] 93)) := (Below.refl _ _).alloc (Nat.le_refl _) _
    have HB3 := hid (bnext0 HB2.out hb23)
    have HG := hid (HGR.out A3 c3 _ HB3.out ((Nds.below HRN.out hb23).more hb23.size))
    have p4 := (HC.out _ HB3.out).1.c4
    clear hb23 HRN HGR HBG2
    go_upto_region 5 with (first | (go_at_call 61; refine HG.out.mono ?_; rintro e w5 ⟨v5, rfl, ho5, hb5⟩; obtain ⟨A5, c5, rfl⟩ := own_slice ho5; have HO5 := hid (Reads.of_own ho5); have HB5 := hid (bnext0 HB3.out hb5); clear p4 ho5 hb5))
    obtain ⟨⟨k1, k2⟩, ⟨k3, k4⟩, _⟩ := (HC.out w5 HB5.out).2.cells
    by_cases hnu : 0 ≤ nu ∧ nu < (m : Int)
    · have HX := hid (HK.out.trans (if_pos hnu))
      obtain ⟨n0, n1⟩ := hnu
      obtain ⟨j, rfl⟩ := Int.eq_ofNat_of_zero_le n0
      have hjm : j < m := by omega
      obtain ⟨hk1, hk2⟩ := HGT.out j hjm
      rw [Int.toNat_natCast] at HX
      generalize gS ss pl rows ((kidsOf pl (-1)).getD j 0) = s at *
      obtain ⟨b5, o5, rfl, hb5, hc5⟩ := Reads.at0 HO5.out (by omega) (by rw [HFL.out]; omega)
      have r1 := hc5 _ _ hk1
      have r2 := hc5 _ _ hk2
      rw [← Nat.add_assoc] at r1 r2
      have e1 : decide ((j : Int) < 0) = false := decide_eq_false (by omega)
      have e2 : decide ((m : Int) ≤ (j : Int)) = false := decide_eq_false (by omega)
      have e3 : decide (m ≤ j) = false := decide_eq_false (by omega)
      clear n0 hk1 hk2 hc5 hb5 HK HO5 HGT HFL
      go_wp2_with fail
      have t1 := World.cell?_setCell_same _ _ (.int .i64 s.n) k1
      exact bodyPost_ret (v := .tuple #[.agg #[.int .i64 s.n, .int .i64 s.d], .int .i64 0]) (by simp [results, Try.results33, go_sem, k2, t1]) rfl ⟨by rw [HX.out], ((HB1.out.trans (HB5.out.mono HB1.out.size)).setCell HB3'.out _).setCell HB3'.out _⟩
    · have HX := hid (HK.out.trans (if_neg hnu))
      clear HK HO5 HGT HFL
      by_cases h0 : nu < 0
      · have e1 : decide (nu < 0) = true := decide_eq_true h0
        clear h0 hnu
        go_wp2_with fail
        have t1 := World.cell?_setCell_same _ _ (.int .i64 0) k1
        exact bodyPost_ret (v := .tuple #[.agg #[.int .i64 0, .int .i64 0], .int .i64 1]) (by simp [results, Try.results33, go_sem, k2, t1]) rfl ⟨by rw [HX.out], ((HB1.out.trans (HB5.out.mono HB1.out.size)).setCell HB3'.out _).setCell HB3'.out _⟩
      · have e1 : decide (nu < 0) = false := decide_eq_false h0
        have e2 : decide ((m : Int) ≤ nu) = true := decide_eq_true (by omega)
        clear h0 hnu
        go_wp2_with fail
        have t1 := World.cell?_setCell_same _ _ (.int .i64 0) k1
        exact bodyPost_ret (v := .tuple #[.agg #[.int .i64 0, .int .i64 0], .int .i64 1]) (by simp [results, Try.results33, go_sem, k2, t1]) rfl ⟨by rw [HX.out], ((HB1.out.trans (HB5.out.mono HB1.out.size)).setCell HB3'.out _).setCell HB3'.out _⟩
  · have HX := hid (hbad hb)
    have e0 : (begE P ss l d wd != 0) = true := by simpa using hb
    have HBG2 := hid (HBG.out.mono fun (e : Ending) (w' : World) (h : BegPost P ss l d wd A c w1 e w') => (show e = .returned (.tuple #[.agg #[.int .i64 0, .slice none 0 0, .slice none 0 0, .bool false], .int .i64 (begE P ss l d wd)]) ∧ Below w1.heap.size w1 w' from by
      obtain ⟨h1, h2 | ⟨h2, _⟩⟩ := h
      · exact ⟨h2.2, h1⟩
      · exact absurd h2 hb))
    clear HBG
    generalize begE P ss l d wd = BE at *
    generalize sclV P ss l d wd nu = V at *
    generalize ss.length = N at *
    generalize l.length = n at *
    clear hbad hok hpln hb hw1 hb1 hdoc hfr rs rn hv HV HRS
    go_enter Try.func33, Try.ntmps33
    go_upto_region 1 with (fail)
    simp only [Nat.add_assoc, Nat.reduceAdd]
    rw [← HW1.out]
    clear HW1
    obtain ⟨B0, hB0⟩ : ∃ B0, B0 = w.heap.size := ⟨_, rfl⟩
    obtain ⟨B1, hB1⟩ : ∃ B1, B1 = B0 + 1 := ⟨_, rfl⟩
    obtain ⟨B2, hB2⟩ : ∃ B2, B2 = B0 + 2 := ⟨_, rfl⟩
    obtain ⟨B3, hB3⟩ : ∃ B3, B3 = B0 + 3 := ⟨_, rfl⟩
    rw [← hB0] at HC
    rw [← hB1, ← hB2, ← hB3] at HC
    rw [← hB0]
    try rw [← hB1]
    try rw [← hB2]
    try rw [← hB3]
    have HB3' := hid (show w.heap.size ≤ B3 by omega)
    clear hB0 hB1 hB2 hB3 hz1
    have hc := (HC.out w1 (Below.refl _ _)).1
    have p0 := hc.c0; have p1 := hc.c1; have p2 := hc.c2; have p3 := hc.c3; have p4 := hc.c4
    clear hc
    go_upto_region 2 with (first | (go_at_call 46; refine HBG2.out.mono ?_; rintro e w2 ⟨rfl, hb2⟩; have HB2 := hid hb2; clear p0 p1 p2 p3 p4 hb2))
    have HB3 := hid (bnext0 HB2.out ((Below.refl w2.heap.size w2).alloc (Nat.le_refl _) (.cells #[.int .i64 0, .slice none 0 0, .slice none 0 0, .bool false] 93)))
    obtain ⟨⟨k1, k2⟩, ⟨k3, k4⟩, _⟩ := (HC.out _ HB3.out).2.cells
    go_wp2_with fail
    have t1 := World.cell?_setCell_same _ _ (.int .i64 0) k1
    exact bodyPost_ret (v := .tuple #[.agg #[.int .i64 0, .int .i64 0], .int .i64 BE]) (by simp [results, Try.results33, go_sem, k2, t1]) rfl ⟨by rw [HX.out], ((HB1.out.trans (HB3.out.mono HB1.out.size)).setCell HB3'.out _).setCell HB3'.out _⟩
end Go.Proofs.Ytfkcpcdndleboaa

/- WALK: the document's Natural (printed by gen_natn.py). -/
namespace Go.Proofs.Ytfkcpcdndleboaa
open Go.RowKit
/-- Is this an Honour that stands in a ring? -/
def honB (l : List Nd) (k : Nat) : Bool := decide (dep l k ≠ 0) && decide (kd l k = 7)
/-- What Natural answers. -/
noncomputable def natV (P : Int) (ss : List Sg) (l : List Nd) (d wd nu : Int) : (Int × Int) × Int :=
  if begE P ss l d wd = 0 then (if 0 ≤ nu ∧ nu < l.length then
    (if honB l nu.toNat = true then inZ (decide (d ≤ 2)) (plR l l.length) (szN ss (plR l l.length) (decide (d ≤ 2)) (plR l l.length).length) (nu.toNat - 1 - goneN l nu.toNat)
      else szN ss (plR l l.length) (decide (d ≤ 2)) (plR l l.length).length (nu.toNat - goneN l nu.toNat), 0) else ((0, 0), 1)) else ((0, 0), begE P ss l d wd)
theorem gone_s (l : List Nd) (k : Nat) : goneN l (k + 1) = if honB l k = true then goneN l k + 1 else goneN l k := by
  show (if dep l k ≠ 0 ∧ kd l k = 7 then goneN l k + 1 else goneN l k) = _
  unfold honB
  simp
theorem nat_hon {ss : List Sg} {l : List Nd} (hv : Val ss l) {k : Nat} (hk : k < l.length) (h : honB l k = true) : 1 + goneN l k ≤ k ∧ k - 1 - goneN l k < (plR l l.length).length ∧ kd (plR l l.length) (k - 1 - goneN l k) = 5 := by
  unfold honB at h
  simp only [Bool.and_eq_true, decide_eq_true_eq] at h
  obtain ⟨p, rfl, h5, h0, hg⟩ := hon_behind hv hk h.2 h.1
  have h1 := plR_at (m := l.length) (show p < l.length by omega) (fun h => h.1 h0)
  have h2 := gone_le l p
  have e : p + 1 - 1 - goneN l (p + 1) = p - goneN l p := by omega
  obtain ⟨h3, h4⟩ := List.getElem?_eq_some_iff.1 h1
  refine ⟨by omega, by omega, ?_⟩
  rw [e, kd_at h3, h4]
  show (if (nd l p).kind = 7 then 2 else (nd l p).kind) = 5
  have hk5 : (nd l p).kind = 5 := by rw [nd_at (by omega), ← kd_at (by omega)]; exact h5
  rw [hk5]
  rfl
theorem nat_ok {l : List Nd} {k : Nat} (hk : k < l.length) (h : honB l k = false) : goneN l k ≤ k ∧ k - goneN l k < (plR l l.length).length := by
  have h1 := plR_at (m := l.length) hk (show ¬ (dep l k ≠ 0 ∧ kd l k = 7) from fun h2 => by unfold honB at h; simp [h2.1, h2.2] at h)
  exact ⟨gone_le l k, (List.getElem?_eq_some_iff.1 h1).1⟩
theorem inZ_fuel {ss : List Sg} {l : List Nd} {rows : Bool} {f g i : Nat} (hi : i < l.length) (hf : l.length ≤ f + (i + 1)) (hg : l.length ≤ g + (i + 1)) : inZ rows l (szN ss l rows f) i = inZ rows l (szN ss l rows g) i := by
  unfold inZ
  congr 1
  refine List.map_congr_left fun k hk => ?_
  have := kidsOf_mem (l := l) (node := (i : Int)) (by omega) (by omega) hk
  exact szN_fuel f g k (by omega) (by omega) (by omega)
theorem rsz_true {ss : List Sg} {l : List Nd} {rows : Bool} {i : Nat} (hi : i < l.length) (h5 : kd l i = 5) : rsz ss l rows true l.length i = inZ rows l (szN ss l rows l.length) i := by
  obtain ⟨f, hf⟩ : ∃ f, l.length = f + 1 := ⟨l.length - 1, by omega⟩
  have e : rsz ss l rows true (f + 1) i = if kd l i = 5 ∧ true = true then inZ rows l (szN ss l rows f) i else szN ss l rows (f + 1) i := rfl
  rw [hf, e, if_pos ⟨h5, rfl⟩]
  exact inZ_fuel hi (by omega) (by omega)
set_option maxRecDepth 100000 in
set_option maxHeartbeats 4000000 in
theorem NaturalN_any (P : Int) (ss : List Sg) (l : List Nd) (hN : ss.length ≤ 1000000) (hv : ∀ s ∈ ss, s.vals.length ≤ 1000000) (hn : l.length ≤ 1000000) (d wd nu : Int) (A A2 : Option Addr) (c c2 : Nat) (w : World) (rs : Sgs w w.heap.size A ss) (rn : Nds w w.heap.size A2 l) :
    Calls Try.prog 32 #[.agg #[.int .i64 P, .slice A ss.length c], .agg #[.slice A2 l.length c2], .agg #[.int .i64 d, .int .i64 wd], .int .i64 nu] w fun e w' => e = .returned (.tuple #[.int .i64 (natV P ss l d wd nu).1.1, .int .i64 (natV P ss l d wd nu).1.2, .int .i64 (natV P ss l d wd nu).2]) ∧ Below w.heap.size w w' := by
  obtain ⟨w1, hw1⟩ : ∃ w1, w1 = ((w.alloc (.cells #[.int .i64 P, .slice A ss.length c] 24)).alloc (.cells #[.slice A2 l.length c2] 27)).alloc (.cells #[.int .i64 d, .int .i64 wd] 31) := ⟨_, rfl⟩
  have hb1 : Below w.heap.size w w1 := by rw [hw1]; exact (((Below.refl _ _).alloc (Nat.le_refl _) _).alloc (by simp) _).alloc (by simp; omega) _
  have hz1 : w1.heap.size = w.heap.size + 3 := by rw [hw1]; simp
  have hdoc : DocB w1 w.heap.size P (.slice A ss.length c) (.slice A2 l.length c2) d wd := by rw [hw1]; exact DocB.new _ _ _ _ _ _
  have HC := hid fun (W : World) (h : Below w1.heap.size w1 W) => (hdoc.below h (by omega)).cells
  have HBO := hid (both_any P ss l hN hv hn d wd A A2 c c2 w1 ((rs.below hb1).more hb1.size) ((rn.below hb1).more hb1.size))
  have HPL := hid fun (W : World) (h : Below w1.heap.size w1 W) => refPlain_any P ss l hN hv hn A A2 c c2 W ((rs.below (hb1.trans (h.mono hb1.size))).more (Nat.le_trans hb1.size h.size)) ((rn.below (hb1.trans (h.mono hb1.size))).more (Nat.le_trans hb1.size h.size))
  have HRS := hid fun (W : World) (h : Below w1.heap.size w1 W) => (show Sgs W W.heap.size A ss from (rs.below (hb1.trans (h.mono hb1.size))).more (Nat.le_trans hb1.size h.size))
  have HRN := hid rn
  have hbad : begE P ss l d wd ≠ 0 → natV P ss l d wd nu = ((0, 0), begE P ss l d wd) := fun h => if_neg h
  have hok : begE P ss l d wd = 0 → natV P ss l d wd nu = if 0 ≤ nu ∧ nu < l.length then
    (if honB l nu.toNat = true then inZ (decide (d ≤ 2)) (plR l l.length) (szN ss (plR l l.length) (decide (d ≤ 2)) (plR l l.length).length) (nu.toNat - 1 - goneN l nu.toNat)
      else szN ss (plR l l.length) (decide (d ≤ 2)) (plR l l.length).length (nu.toNat - goneN l nu.toNat), 0) else ((0, 0), 1) := fun h => if_pos h
  have HW1 := hid hw1; have HB1 := hid hb1; have HZ1 := hid hz1
  have HV := hid hv
  by_cases hb : begE P ss l d wd = 0
  · have hck := (beg_ok hb).1
    have hpe := plnL_ok hck
    have hp := pln_of hck
    have hval := (val_of hck).2.2
    have hl2 := (val_of hck).2.1
    have hk := hok hb
    rw [hb] at HBO
    rw [hpe, hck] at HPL
    have HNH := hid fun (k : Nat) (hk : k < l.length) (h : honB l k = true) => nat_hon hval hk h
    have HNK := hid fun (k : Nat) (hk : k < l.length) (h : honB l k = false) => nat_ok hk h
    have HD1 := hid fun (k : Nat) (hk : k < l.length) (h7 : kd l k = 7) => hon_dep hck hk h7
    by_cases hnu : 0 ≤ nu ∧ nu < (l.length : Int)
    · have hx := hk.trans (if_pos hnu)
      obtain ⟨n0, n1⟩ := hnu
      obtain ⟨k, rfl⟩ := Int.eq_ofNat_of_zero_le n0
      rw [Int.toNat_natCast] at hx
      have hkl : k < l.length := by omega
      obtain ⟨b, o, rfl, hbB, hcc⟩ := HRN.out.at (by omega)
      have HND := hid fun (j : Nat) (hj : j < l.length) (W : World) (h : Below w1.heap.size w1 W) => (show W.cell? ⟨b, o + j * 8, none⟩ = some (.int .i64 (kd l j)) ∧ W.cell? ⟨b, o + j * 8 + 1, none⟩ = some (.int .i64 (dep l j)) from by
        have hx := (hcc j hj).below (hb1.trans (h.mono hb1.size)) hbB
        rw [kd_at hj, dep_at hj]
        exact ⟨hx.kind, hx.depth⟩)
      generalize hpl : plR l l.length = pl at *
      have hnp := hp.len
      have HSZ := hid fun (i : Nat) (hi : i < pl.length) (inn : Bool) (A3 : Option Addr) (c3 : Nat) (W : World) (h : Below w1.heap.size w1 W) (r : Nds W W.heap.size A3 pl) => rsize_any P ss pl d wd hp hN HV.out pl.length i hi (by omega) inn A A3 c c3 W (HRS.out W h) r
      have HX := hid hx
      have HKL := hid hkl
      have hkn : k < 1000000 := by omega
      generalize natV P ss l d wd (k : Int) = V at *
      have HHO := hid fun (j : Nat) => (show honB l j = (decide (dep l j ≠ 0) && decide (kd l j = 7)) from rfl)
      have HGS := hid (gone_s l)
      have HGL := hid (gone_le l)
      have HG0 := hid (show goneN l 0 = 0 from rfl)
      have HTR := hid fun (i : Nat) (hi : i < pl.length) (h5 : kd pl i = 5) => rsz_true (ss := ss) (rows := decide (d ≤ 2)) hi h5
      have HFA := hid fun (i : Nat) => rsz_false (ss := ss) (l := pl) (rows := decide (d ≤ 2)) pl.length i
      clear hcc HRN rn hx hkl
      generalize hln : l.length = n at *
      have HLN := hid hln
      generalize ss.length = N at *
      clear hln hk hbad hok hb hck hpe hw1 hb1 hdoc rs hv HV HRS hp hval hpl hl2 n0
      go_enter Try.func32, Try.ntmps32
      go_upto_region 1 with (fail)
      simp only [Nat.add_assoc, Nat.reduceAdd]
      rw [← HW1.out]
      clear HW1
      obtain ⟨B0, hB0⟩ : ∃ B0, B0 = w.heap.size := ⟨_, rfl⟩
      obtain ⟨B1, hB1⟩ : ∃ B1, B1 = B0 + 1 := ⟨_, rfl⟩
      obtain ⟨B2, hB2⟩ : ∃ B2, B2 = B0 + 2 := ⟨_, rfl⟩
      rw [← hB0] at HC
      rw [← hB1, ← hB2] at HC
      rw [← hB0]
      try rw [← hB1]
      try rw [← hB2]
      clear hB0 hB1 hB2
      have hc := HC.out w1 (Below.refl _ _)
      have p0 := hc.c0; have p1 := hc.c1; have p2 := hc.c2; have p3 := hc.c3; have p4 := hc.c4
      clear hc
      have q1 : decide ((k : Int) < 0) = false := decide_eq_false (by omega)
      have q2 : decide ((n : Int) ≤ (k : Int)) = false := decide_eq_false (by omega)
      have q3 : decide (n ≤ k) = false := decide_eq_false (by omega)
      go_upto_region 7 with (first | (go_at_call 49; refine HBO.out.mono ?_; rintro e w2 ⟨rfl, hb2⟩; have HB2 := hid hb2; have hc := HC.out w2 hb2; clear p0 p1 p2 p3 p4; have p0 := hc.c0; have p1 := hc.c1; have p2 := hc.c2; clear hc hb2) | (go_at_call 20; refine (HPL.out w2 HB2.out).mono ?_; rintro e w3 ⟨v3, rfl, ho3, hb3⟩; obtain ⟨A3, c3, rfl⟩ := own_slice ho3; have HO3 := hid ho3; have HB3 := hid (bnext0 HB2.out hb3); clear p0 p1 p2 ho3 hb3))
      clear q1 q2 q3
      obtain ⟨w4, hw4⟩ : ∃ w4, w4 = w3.alloc (.cells #[.slice A3 pl.length c3] 27) := ⟨_, rfl⟩
      obtain ⟨b11, hb11⟩ : ∃ b11, b11 = w3.heap.size := ⟨_, rfl⟩
      have htx : TxB w4 b11 (.slice A3 pl.length c3) := by rw [hw4, hb11]; exact nw_blk rfl
      have hb34 : Below w3.heap.size w3 w4 := by rw [hw4]; exact (Below.refl _ _).alloc (Nat.le_refl _) _
      have HRN4 := hid (show Nds w4 w4.heap.size A3 pl from Reads.more ((Reads.of_own HO3.out).below hb34) hb34.size)
      have HB4 := hid (bnext0 HB3.out hb34)
      rw [← hw4, ← hb11]
      have HTX := hid htx
      clear hw4 hb11 htx hb34 HO3
      go_wp2_with fail
      go_loopw [14, 15] (fun g iv wr => ∃ j : Nat, j ≤ k ∧ iv = .int .i64 j ∧ g = .int .i64 (goneN l j) ∧ w4 = wr) (fun _ iv _ => k - (intOf iv).toNat)
      case atStart => exact ⟨0, by omega, rfl, by rw [HG0.out]; rfl, by first | rfl | trivial⟩
      case round =>
        obtain ⟨j, hj, rfl, rfl, rfl⟩ := hrel
        have hgl := HGL.out j
        by_cases hjk : j < k
        · have hjl : j < n := by omega
          have hjn : (j : Int) < (n : Int) := by omega
          have hjk2 : (j : Int) < (k : Int) := by omega
          obtain ⟨e1, e2⟩ := HND.out j (by omega) w4 HB4.out
          have hc := HC.out w4 HB4.out
          have p2 := hc.c2
          clear hc
          have hh0 := HHO.out j
          have hd1 := HD1.out j hjl
          generalize kd l j = kk at hh0 hd1 e1
          generalize dep l j = dd at hh0 hd1 e2
          by_cases h7 : kk = 7
          · subst h7
            rcases hd1 rfl with rfl | rfl
            · have hh : honB l j = false := by rw [hh0]; rfl
              clear hd1 hh0
              have hg := HGS.out j
              rw [if_neg (by rw [hh]; decide)] at hg
              have HG := hid hg
              clear hh hg
              go_wp2_with fail
              go_roundw
              case rel => exact ⟨j + 1, by omega, by go_num, by rw [HG.out]; try go_num, by first | rfl | trivial⟩
              case measure => simp [intOf]; omega
            · have hh : honB l j = true := by rw [hh0]; rfl
              clear hd1 hh0
              have hg := HGS.out j
              rw [if_pos hh] at hg
              have HG := hid hg
              clear hh hg
              go_wp2_with fail
              go_roundw
              case rel => exact ⟨j + 1, by omega, by go_num, by rw [HG.out]; try go_num, by first | rfl | trivial⟩
              case measure => simp [intOf]; omega
          · have hh : honB l j = false := by rw [hh0]; simp [h7]
            have e7 : (kk == 7) = false := by simp [h7]
            clear hd1 hh0 h7
            have hg := HGS.out j
            rw [if_neg (by rw [hh]; decide)] at hg
            have HG := hid hg
            clear hh hg
            go_wp2_with fail
            go_roundw
            case rel => exact ⟨j + 1, by omega, by go_num, by rw [HG.out]; try go_num, by first | rfl | trivial⟩
            case measure => simp [intOf]; omega
        · obtain rfl : j = k := by omega
          have g0 : decide ((j : Int) < (j : Int)) = false := by simp
          obtain ⟨e1, e2⟩ := HND.out j (by omega) w4 HB4.out
          have hjl : j < n := by omega
          have hc := HC.out w4 HB4.out
          have p0 := hc.c0; have p1 := hc.c1; have p2 := hc.c2; have p3 := hc.c3; have p4 := hc.c4
          have p5 := HTX.out.cells
          clear hc
          have hh0 := HHO.out j
          have hd1 := HD1.out j hjl
          generalize kd l j = kk at hh0 hd1 e1
          generalize dep l j = dd at hh0 hd1 e2
          by_cases h7 : kk = 7
          · subst h7
            rcases hd1 rfl with rfl | rfl
            · have hh : honB l j = false := by rw [hh0]; rfl
              clear hd1 hh0
              obtain ⟨z1, z2⟩ := HNK.out j HKL.out hh
              obtain ⟨i, hi⟩ : ∃ i, i = j - goneN l j := ⟨_, rfl⟩
              rw [← hi] at z2
              have HY := hid (HX.out.trans (by rw [if_neg (by rw [hh]; decide), ← hi]))
              have HS := hid (HSZ.out i z2 false A3 c3 w4 HB4.out HRN4.out)
              rw [HFA.out i] at HS
              generalize szN ss pl (decide (d ≤ 2)) pl.length i = zz at HY HS
              have q8 : (j : Int) - (goneN l j : Int) = (i : Int) := by omega
              have q9 : goneN l j ≤ j := by omega
              generalize goneN l j = gk at q8 q9 ⊢
              clear hh hi z1 z2 HNH HNK HSZ HTR HFA HX HHO HGS HGL HG0 HND HD1 HPL HBO
              go_wp2_with (first | (go_at_call 65; refine HS.out.mono ?_; rintro e w6 ⟨rfl, hb6⟩; have HB6 := hid (bnext0 HB4.out hb6); clear hb6))
              go_ret3
              exact ⟨by rw [HY.out]; rfl, HB1.out.trans (HB6.out.mono HB1.out.size)⟩
            · have hh : honB l j = true := by rw [hh0]; rfl
              clear hd1 hh0
              obtain ⟨z1, z2, z3⟩ := HNH.out j HKL.out hh
              obtain ⟨i, hi⟩ : ∃ i, i = j - 1 - goneN l j := ⟨_, rfl⟩
              rw [← hi] at z2 z3
              have HY := hid (HX.out.trans (by rw [if_pos hh, ← hi]))
              have HS := hid (HSZ.out i z2 true A3 c3 w4 HB4.out HRN4.out)
              rw [HTR.out i z2 z3] at HS
              generalize inZ (decide (d ≤ 2)) pl (szN ss pl (decide (d ≤ 2)) pl.length) i = zz at HY HS
              have q8 : (j : Int) - 1 - (goneN l j : Int) = (i : Int) := by omega
              have q9 : goneN l j ≤ j := by omega
              generalize goneN l j = gk at q8 q9 ⊢
              clear hh hi z1 z2 z3 HNH HNK HSZ HTR HFA HX HHO HGS HGL HG0 HND HD1 HPL HBO
              go_wp2_with (first | (go_at_call 65; refine HS.out.mono ?_; rintro e w6 ⟨rfl, hb6⟩; have HB6 := hid (bnext0 HB4.out hb6); clear hb6))
              go_ret3
              exact ⟨by rw [HY.out]; rfl, HB1.out.trans (HB6.out.mono HB1.out.size)⟩
          · have hh : honB l j = false := by rw [hh0]; simp [h7]
            have e7 : (kk == 7) = false := by simp [h7]
            clear hd1 hh0 h7
            obtain ⟨z1, z2⟩ := HNK.out j HKL.out hh
            obtain ⟨i, hi⟩ : ∃ i, i = j - goneN l j := ⟨_, rfl⟩
            rw [← hi] at z2
            have HY := hid (HX.out.trans (by rw [if_neg (by rw [hh]; decide), ← hi]))
            have HS := hid (HSZ.out i z2 false A3 c3 w4 HB4.out HRN4.out)
            rw [HFA.out i] at HS
            generalize szN ss pl (decide (d ≤ 2)) pl.length i = zz at HY HS
            have q8 : (j : Int) - (goneN l j : Int) = (i : Int) := by omega
            have q9 : goneN l j ≤ j := by omega
            generalize goneN l j = gk at q8 q9 ⊢
            clear hh hi z1 z2 HNH HNK HSZ HTR HFA HX HHO HGS HGL HG0 HND HD1 HPL HBO
            go_wp2_with (first | (go_at_call 65; refine HS.out.mono ?_; rintro e w6 ⟨rfl, hb6⟩; have HB6 := hid (bnext0 HB4.out hb6); clear hb6))
            go_ret3
            exact ⟨by rw [HY.out]; rfl, HB1.out.trans (HB6.out.mono HB1.out.size)⟩
    · have HX := hid (hk.trans (if_neg hnu))
      generalize natV P ss l d wd nu = V at *
      generalize l.length = n at *
      generalize ss.length = N at *
      clear hk hbad hok hb hck hpe hw1 hb1 hdoc rs rn hv HV HRS HRN hp hval HNH HNK HD1 HPL hl2
      go_enter Try.func32, Try.ntmps32
      go_upto_region 1 with (fail)
      simp only [Nat.add_assoc, Nat.reduceAdd]
      rw [← HW1.out]
      clear HW1
      obtain ⟨B0, hB0⟩ : ∃ B0, B0 = w.heap.size := ⟨_, rfl⟩
      obtain ⟨B1, hB1⟩ : ∃ B1, B1 = B0 + 1 := ⟨_, rfl⟩
      obtain ⟨B2, hB2⟩ : ∃ B2, B2 = B0 + 2 := ⟨_, rfl⟩
      rw [← hB0] at HC
      rw [← hB1, ← hB2] at HC
      rw [← hB0]
      try rw [← hB1]
      try rw [← hB2]
      clear hB0 hB1 hB2
      have hc := HC.out w1 (Below.refl _ _)
      have p0 := hc.c0; have p1 := hc.c1; have p2 := hc.c2; have p3 := hc.c3; have p4 := hc.c4
      clear hc
      by_cases h0 : nu < 0
      · have q1 : decide (nu < 0) = true := decide_eq_true h0
        clear hnu h0
        go_wp2_with (first | (go_at_call 49; refine HBO.out.mono ?_; rintro e w2 ⟨rfl, hb2⟩; have HB2 := hid hb2; have hc := HC.out w2 hb2; clear p0 p1 p2 p3 p4; have p2 := hc.c2; clear hc hb2))
        go_ret3
        exact ⟨by rw [HX.out]; rfl, HB1.out.trans (HB2.out.mono HB1.out.size)⟩
      · have q1 : decide (nu < 0) = false := decide_eq_false h0
        have q2 : decide ((n : Int) ≤ nu) = true := decide_eq_true (by omega)
        clear hnu h0
        go_wp2_with (first | (go_at_call 49; refine HBO.out.mono ?_; rintro e w2 ⟨rfl, hb2⟩; have HB2 := hid hb2; have hc := HC.out w2 hb2; clear p0 p1 p2 p3 p4; have p2 := hc.c2; clear hc hb2))
        go_ret3
        exact ⟨by rw [HX.out]; rfl, HB1.out.trans (HB2.out.mono HB1.out.size)⟩
  · have HX := hid (hbad hb)
    have e0 : (begE P ss l d wd != 0) = true := by simpa using hb
    generalize begE P ss l d wd = BE at *
    generalize natV P ss l d wd nu = V at *
    generalize ss.length = N at *
    generalize l.length = n at *
    clear hbad hok hb hw1 hb1 hdoc rs rn hv HV HRS HPL HRN
    go_enter Try.func32, Try.ntmps32
    go_upto_region 1 with (fail)
    simp only [Nat.add_assoc, Nat.reduceAdd]
    rw [← HW1.out]
    clear HW1
    obtain ⟨B0, hB0⟩ : ∃ B0, B0 = w.heap.size := ⟨_, rfl⟩
    obtain ⟨B1, hB1⟩ : ∃ B1, B1 = B0 + 1 := ⟨_, rfl⟩
    obtain ⟨B2, hB2⟩ : ∃ B2, B2 = B0 + 2 := ⟨_, rfl⟩
    rw [← hB0] at HC
    rw [← hB1, ← hB2] at HC
    rw [← hB0]
    try rw [← hB1]
    try rw [← hB2]
    clear hB0 hB1 hB2 hz1
    have hc := HC.out w1 (Below.refl _ _)
    have p0 := hc.c0; have p1 := hc.c1; have p2 := hc.c2; have p3 := hc.c3; have p4 := hc.c4
    clear hc
    go_wp2_with (first | (go_at_call 49; refine HBO.out.mono ?_; rintro e w2 ⟨rfl, hb2⟩; have HB2 := hid hb2; clear p0 p1 p2 p3 p4 hb2))
    go_ret3
    exact ⟨by rw [HX.out]; rfl, HB1.out.trans (HB2.out.mono HB1.out.size)⟩
end Go.Proofs.Ytfkcpcdndleboaa

/- WALK: the program's Natural (printed by gen_natp.py). -/
namespace Go.Proofs.Ytfkcpcdndleboaa
open Go.RowKit
/-- What stands in a ring has a size. -/
theorem inside_size (P : Int) (ss : List Sg) (l : List Nd) (rows : Bool) (hp : Pln P ss l) (hsl : ss.length ≤ 1000000) (hsv : ∀ s ∈ ss, s.vals.length ≤ 1000000 ∧ s.vals.length ≤ s.vc) (i : Nat) (hi : i < l.length) (h5 : kd l i = 5) (A A2 : Option Addr) (c c2 : Nat) (w : World) (rs : Sgs w w.heap.size A ss) (rn : Nds w w.heap.size A2 l) :
    Calls Try.prog 63 #[.agg #[.int .i64 P, .slice A ss.length c, .slice A2 l.length c2, .bool rows], .int .i64 i] w fun e w' => ∃ v, e = .returned v ∧ SzC w' v (inZ rows l (szN ss l rows l.length) i) ∧ Below w.heap.size w w' := by
  have hn := hp.len
  refine (linside_any P ss l rows (by omega) l.length i hi h5 (fun k h1 h2 => figure_any P ss l rows hp hsl hsv l.length k h2 (by omega)) A A2 c c2 w rs rn).mono fun e w' ⟨v, e1, e2, e3⟩ => ⟨v, e1, ?_, e3⟩
  exact row_size hp (fun b h => h.2) hi (by rw [h5]; rfl) (by omega) (fun k h1 h2 u h => fig_size hp (fun b h => h.2) l.length k h1 h2 u h) e2
theorem figure_size (P : Int) (ss : List Sg) (l : List Nd) (rows : Bool) (hp : Pln P ss l) (hsl : ss.length ≤ 1000000) (hsv : ∀ s ∈ ss, s.vals.length ≤ 1000000 ∧ s.vals.length ≤ s.vc) (i : Nat) (hi : i < l.length) (A A2 : Option Addr) (c c2 : Nat) (w : World) (rs : Sgs w w.heap.size A ss) (rn : Nds w w.heap.size A2 l) :
    Calls Try.prog 64 #[.agg #[.int .i64 P, .slice A ss.length c, .slice A2 l.length c2, .bool rows], .int .i64 i] w fun e w' => ∃ v, e = .returned v ∧ SzC w' v (szN ss l rows l.length i) ∧ Below w.heap.size w w' :=
  (figure_any P ss l rows hp hsl hsv l.length i hi (by omega) A A2 c c2 w rs rn).mono fun e w' ⟨v, e1, e2, e3⟩ => ⟨v, e1, fig_size hp (fun b h => h.2) l.length i hi (by omega) v e2, e3⟩
/-- A layout in a box. -/
def LyB (W : World) (b : Nat) (P : Int) (vl vn : Value) (rows : Bool) : Prop := W.heap[b]? = some (.cells #[.int .i64 P, vl, vn, .bool rows] 93 (0, 0))
theorem LyB.cells {W : World} {b : Nat} {P : Int} {vl vn : Value} {rows : Bool} (h : LyB W b P vl vn rows) : (W.cell? ⟨b, 0, none⟩ = some (.int .i64 P) ∧ W.cell? ⟨b, 1, none⟩ = some vl) ∧ W.cell? ⟨b, 2, none⟩ = some vn ∧ W.cell? ⟨b, 3, none⟩ = some (.bool rows) := (four_cells h).1
theorem LyB.below {W W' : World} {b : Nat} {P : Int} {vl vn : Value} {rows : Bool} (h : LyB W b P vl vn rows) (hb : Below W.heap.size W W') : LyB W' b P vl vn rows := (hb.block b (lt_of_block h)).trans h
set_option maxRecDepth 100000 in
set_option maxHeartbeats 4000000 in
theorem Natural_any (P : Int) (ss : List Sg) (l : List Nd) (hN : ss.length ≤ 1000000) (hv : ∀ s ∈ ss, s.vals.length ≤ 1000000 ∧ s.vals.length ≤ s.vc) (hn : l.length ≤ 1000000) (d wd nu : Int) (A A2 : Option Addr) (c c2 : Nat) (hcap : l.length ≤ c2) (w : World) (rs : Sgs w w.heap.size A ss) (rn : Nds w w.heap.size A2 l) :
    Calls Try.prog 31 #[.agg #[.int .i64 P, .slice A ss.length c], .agg #[.slice A2 l.length c2], .agg #[.int .i64 d, .int .i64 wd], .int .i64 nu] w fun e w' => e = .returned (.tuple #[.int .i64 (natV P ss l d wd nu).1.1, .int .i64 (natV P ss l d wd nu).1.2, .int .i64 (natV P ss l d wd nu).2]) ∧ Below w.heap.size w w' := by
  obtain ⟨w1, hw1⟩ : ∃ w1, w1 = ((w.alloc (.cells #[.int .i64 P, .slice A ss.length c] 24)).alloc (.cells #[.slice A2 l.length c2] 27)).alloc (.cells #[.int .i64 d, .int .i64 wd] 31) := ⟨_, rfl⟩
  have hb1 : Below w.heap.size w w1 := by rw [hw1]; exact (((Below.refl _ _).alloc (Nat.le_refl _) _).alloc (by simp) _).alloc (by simp; omega) _
  have hz1 : w1.heap.size = w.heap.size + 3 := by rw [hw1]; simp
  have hdoc : DocB w1 w.heap.size P (.slice A ss.length c) (.slice A2 l.length c2) d wd := by rw [hw1]; exact DocB.new _ _ _ _ _ _
  have HC := hid fun (W : World) (h : Below w1.heap.size w1 W) => (hdoc.below h (by omega)).cells
  have HBG := hid (begin_any P ss l hN hv hn d wd A A2 c c2 w1 ((rs.below hb1).more hb1.size) ((rn.below hb1).more hb1.size))
  have HRS := hid fun (W : World) (h : Below w1.heap.size w1 W) => (show Sgs W W.heap.size A ss from (rs.below (hb1.trans (h.mono hb1.size))).more (Nat.le_trans hb1.size h.size))
  have HRN := hid rn
  have hbad : begE P ss l d wd ≠ 0 → natV P ss l d wd nu = ((0, 0), begE P ss l d wd) := fun h => if_neg h
  have hok : begE P ss l d wd = 0 → natV P ss l d wd nu = if 0 ≤ nu ∧ nu < l.length then
    (if honB l nu.toNat = true then inZ (decide (d ≤ 2)) (plR l l.length) (szN ss (plR l l.length) (decide (d ≤ 2)) (plR l l.length).length) (nu.toNat - 1 - goneN l nu.toNat)
      else szN ss (plR l l.length) (decide (d ≤ 2)) (plR l l.length).length (nu.toNat - goneN l nu.toNat), 0) else ((0, 0), 1) := fun h => if_pos h
  have HW1 := hid hw1; have HB1 := hid hb1; have HZ1 := hid hz1
  have HV := hid hv
  by_cases hb : begE P ss l d wd = 0
  · have hck := (beg_ok hb).1
    have hp := pln_of hck
    have hval := (val_of hck).2.2
    have hk := hok hb
    have HBG2 := hid (HBG.out.mono fun (e : Ending) (w' : World) (h : BegPost P ss l d wd A c w1 e w') => (show ∃ (A3 : Option Addr) (c3 : Nat), e = .returned (.tuple #[.agg #[.int .i64 P, .slice A ss.length c, .slice A3 (plR l l.length).length c3, .bool (decide (d ≤ 2))], .int .i64 0]) ∧ Nds w' w'.heap.size A3 (plR l l.length) ∧ Below w1.heap.size w1 w' from by
      obtain ⟨h1, h2 | ⟨h2, A3, c3, h3, h4⟩⟩ := h
      · exact absurd hb h2.1
      · exact ⟨A3, c3, h3, h4, h1⟩))
    clear HBG
    have HNH := hid fun (k : Nat) (hk : k < l.length) (h : honB l k = true) => nat_hon hval hk h
    have HNK := hid fun (k : Nat) (hk : k < l.length) (h : honB l k = false) => nat_ok hk h
    have HD1 := hid fun (k : Nat) (hk : k < l.length) (h7 : kd l k = 7) => hon_dep hck hk h7
    have HKN := hid fun (k : Nat) (hk : k < l.length) => (show kd l k = (nd l k).kind ∧ dep l k = (nd l k).depth from by rw [nd_at hk, kd_at hk, dep_at hk]; exact ⟨rfl, rfl⟩)
    by_cases hnu : 0 ≤ nu ∧ nu < (l.length : Int)
    · have hx := hk.trans (if_pos hnu)
      obtain ⟨n0, n1⟩ := hnu
      obtain ⟨k, rfl⟩ := Int.eq_ofNat_of_zero_le n0
      rw [Int.toNat_natCast] at hx
      have hkl : k < l.length := by omega
      obtain ⟨b, o, rfl, hbB, hcc⟩ := HRN.out.at (by omega)
      have HND := hid fun (j : Nat) (hj : j < l.length) (W : World) (h : Below w1.heap.size w1 W) => (show NdAt W b (o + j * 8) (nd l j) from by
        rw [nd_at hj]
        exact (hcc j hj).below (hb1.trans (h.mono hb1.size)) hbB)
      generalize hpl : plR l l.length = pl at *
      have hnp := hp.len
      generalize hrw : decide (d ≤ 2) = rows at *
      have HIN := hid fun (i : Nat) (hi : i < pl.length) (h5 : kd pl i = 5) (A3 : Option Addr) (c3 : Nat) (W : World) (h : Below w1.heap.size w1 W) (r : Nds W W.heap.size A3 pl) => inside_size P ss pl rows hp hN HV.out i hi h5 A A3 c c3 W (HRS.out W h) r
      have HFI := hid fun (i : Nat) (hi : i < pl.length) (A3 : Option Addr) (c3 : Nat) (W : World) (h : Below w1.heap.size w1 W) (r : Nds W W.heap.size A3 pl) => figure_size P ss pl rows hp hN HV.out i hi A A3 c c3 W (HRS.out W h) r
      have HX := hid hx
      have HKL := hid hkl
      have hkn : k < 1000000 := by omega
      generalize natV P ss l d wd (k : Int) = V at *
      have HHO := hid fun (j : Nat) => (show honB l j = (decide (dep l j ≠ 0) && decide (kd l j = 7)) from rfl)
      have HGS := hid (gone_s l)
      have HGL := hid (gone_le l)
      have HG0 := hid (show goneN l 0 = 0 from rfl)
      clear hcc HRN rn hx hkl
      generalize l.length = n at *
      generalize ss.length = N at *
      clear hk hbad hok hb hck hw1 hb1 hdoc rs hv HV HRS hp hval hpl n0 hrw
      go_enter Try.func31, Try.ntmps31
      go_upto_region 1 with (fail)
      simp only [Nat.add_assoc, Nat.reduceAdd]
      rw [← HW1.out]
      clear HW1
      obtain ⟨B0, hB0⟩ : ∃ B0, B0 = w.heap.size := ⟨_, rfl⟩
      obtain ⟨B1, hB1⟩ : ∃ B1, B1 = B0 + 1 := ⟨_, rfl⟩
      obtain ⟨B2, hB2⟩ : ∃ B2, B2 = B0 + 2 := ⟨_, rfl⟩
      rw [← hB0] at HC
      rw [← hB1, ← hB2] at HC
      rw [← hB0]
      try rw [← hB1]
      try rw [← hB2]
      clear hB0 hB1 hB2
      have hc := HC.out w1 (Below.refl _ _)
      have p0 := hc.c0; have p1 := hc.c1; have p2 := hc.c2; have p3 := hc.c3; have p4 := hc.c4
      clear hc
      have q1 : decide ((k : Int) < 0) = false := decide_eq_false (by omega)
      have q2 : decide ((n : Int) ≤ (k : Int)) = false := decide_eq_false (by omega)
      have q3 : decide (n ≤ k) = false := decide_eq_false (by omega)
      have q4 : (k : Int) ≤ (n : Int) := by omega
      have q5 : (k : Int) ≤ (c2 : Int) := by omega
      have q6 : k ≤ c2 := by omega
      have q7 : (0 : Int) ≤ (k : Int) := by omega
      go_upto_region 2 with (first | (go_at_call 46; refine HBG2.out.mono ?_; rintro e w2 ⟨A3, c3, rfl, hr, hb2⟩; have HR2 := hid hr; have HB2 := hid hb2; clear p0 p1 p2 p3 p4 hr hb2))
      obtain ⟨w3, hw3⟩ : ∃ w3, w3 = w2.alloc (.cells #[.int .i64 P, .slice A N c, .slice A3 pl.length c3, .bool rows] 93) := ⟨_, rfl⟩
      obtain ⟨b11, hb11⟩ : ∃ b11, b11 = w2.heap.size := ⟨_, rfl⟩
      have hlb : LyB w3 b11 P (.slice A N c) (.slice A3 pl.length c3) rows := by rw [hw3, hb11]; exact nw_blk rfl
      have hb23 : Below w2.heap.size w2 w3 := by rw [hw3]; exact (Below.refl _ _).alloc (Nat.le_refl _) _
      have HB3 := hid (bnext0 HB2.out hb23)
      have HRN3 := hid (show Nds w3 w3.heap.size A3 pl from Reads.more (HR2.out.below hb23) hb23.size)
      rw [← hw3, ← hb11]
      have HLB := hid hlb
      clear hw3 hb11 hlb hb23 HR2 HBG2
      have p2 := (HC.out w3 HB3.out).c2
      go_wp2_with fail
      clear q1 q2 q3
      go_loopw [12, 40] (fun g iv wr => ∃ j : Nat, j ≤ k ∧ iv = .int .i64 j ∧ g = .int .i64 (goneN l j) ∧ Hid (Below w3.heap.size w3 wr)) (fun _ iv _ => k - (intOf iv).toNat)
      case atStart => exact ⟨0, by omega, rfl, by rw [HG0.out]; rfl, hid (Below.refl _ _)⟩
      case round =>
        obtain ⟨j, hj, rfl, rfl, hB⟩ := hrel
        have hgl := HGL.out j
        have HBR := hid (bnext0 HB3.out hB.out)
        clear p2
        have p2 := (HC.out wr HBR.out).c2
        by_cases hjk : j < k
        · have hjl : j < n := by omega
          have hjn : (j : Int) < (n : Int) := by omega
          have hjk2 : (j : Int) < (k : Int) := by omega
          have hx := HND.out j hjl
          have hh0 := HHO.out j
          have hd1 := HD1.out j hjl
          have hkn := HKN.out j hjl
          rw [hkn.1] at hh0 hd1
          rw [hkn.2] at hh0 hd1
          generalize nd l j = g at *
          obtain ⟨kk, dd, g3, g4, g5, g6, g7, g8⟩ := g
          simp only [] at hh0 hd1
          have hxw := hx wr HBR.out
          have d1 := hxw.kind; have d2 := hxw.depth; have d3 := hxw.sign; have d4 := hxw.turn; have d5 := hxw.mir; have d6 := hxw.state; have d7 := hxw.mn; have d8 := hxw.mx
          simp only [] at d1 d2 d3 d4 d5 d6 d7 d8
          clear hx hxw hkn
          by_cases h7 : kk = 7
          · subst h7
            rcases hd1 rfl with rfl | rfl
            · have hh : honB l j = false := by rw [hh0]; rfl
              clear hd1 hh0
              have hg := HGS.out j
              rw [if_neg (by rw [hh]; decide)] at hg
              have HG := hid hg
              have HBB := hid fun X : Obj => hB.out.alloc hB.out.size X
              clear hh hg
              go_wp2_with fail
              go_roundw
              case rel => exact ⟨j + 1, by omega, by go_num, by rw [HG.out]; try go_num, HBB.out _⟩
              case measure => simp [intOf]; omega
            · have hh : honB l j = true := by rw [hh0]; rfl
              clear hd1 hh0
              have hg := HGS.out j
              rw [if_pos hh] at hg
              have HG := hid hg
              have HBB := hid fun X : Obj => hB.out.alloc hB.out.size X
              clear hh hg
              go_wp2_with fail
              go_roundw
              case rel => exact ⟨j + 1, by omega, by go_num, by rw [HG.out]; try go_num, HBB.out _⟩
              case measure => simp [intOf]; omega
          · have hh : honB l j = false := by rw [hh0]; simp [h7]
            have e7 : (kk == 7) = false := by simp [h7]
            clear hd1 hh0 h7
            have hg := HGS.out j
            rw [if_neg (by rw [hh]; decide)] at hg
            have HG := hid hg
            have HBB := hid fun X : Obj => hB.out.alloc hB.out.size X
            clear hh hg
            go_wp2_with fail
            go_roundw
            case rel => exact ⟨j + 1, by omega, by go_num, by rw [HG.out]; try go_num, HBB.out _⟩
            case measure => simp [intOf]; omega
        · obtain rfl : j = k := by omega
          have g0 : decide ((j : Int) < (j : Int)) = false := by simp
          have hjl : j < n := by omega
          have hjn : (j : Int) < (n : Int) := by omega
          have hx := HND.out j hjl
          have hh0 := HHO.out j
          have hd1 := HD1.out j hjl
          have hkn := HKN.out j hjl
          rw [hkn.1] at hh0 hd1
          rw [hkn.2] at hh0 hd1
          generalize nd l j = g at *
          obtain ⟨kk, dd, g3, g4, g5, g6, g7, g8⟩ := g
          simp only [] at hh0 hd1
          have hxw := hx wr HBR.out
          have d1 := hxw.kind; have d2 := hxw.depth; have d3 := hxw.sign; have d4 := hxw.turn; have d5 := hxw.mir; have d6 := hxw.state; have d7 := hxw.mn; have d8 := hxw.mx
          simp only [] at d1 d2 d3 d4 d5 d6 d7 d8
          clear hx hxw hkn
          go_upto_region 14 with (fail)
          obtain ⟨w6, hw6⟩ : ∃ w6, w6 = wr.alloc (.cells #[.int .i64 kk, .int .i64 dd, .int .i64 g3, .int .i64 g4, .bool g5, .int .i64 g6, .int .i64 g7, .int .i64 g8] 49) := ⟨_, rfl⟩
          obtain ⟨b15, hb15⟩ : ∃ b15, b15 = wr.heap.size := ⟨_, rfl⟩
          have t0 : w6.cell? ⟨b15, 0, none⟩ = some (.int .i64 kk) := by rw [hw6, hb15]; exact cell_here rfl rfl
          have t1 : w6.cell? ⟨b15, 1, none⟩ = some (.int .i64 dd) := by rw [hw6, hb15]; exact cell_here rfl rfl
          have hbr6 : Below wr.heap.size wr w6 := by rw [hw6]; exact (Below.refl _ _).alloc (Nat.le_refl _) _
          have HB6 := hid (bnext0 HBR.out hbr6)
          have HRN6 := hid (show Nds w6 w6.heap.size A3 pl from Reads.more (HRN3.out.below (bnext0 hB.out hbr6)) (bnext0 hB.out hbr6).size)
          obtain ⟨⟨p0, p1⟩, p3, p4⟩ := ((HLB.out.below hB.out).below hbr6).cells
          rw [← hw6, ← hb15]
          clear hw6 hb15 hbr6 d1 d2 d3 d4 d5 d6 d7 d8 p2
          by_cases h7 : kk = 7
          · subst h7
            rcases hd1 rfl with rfl | rfl
            · have hh : honB l j = false := by rw [hh0]; rfl
              clear hd1 hh0
              obtain ⟨z1, z2⟩ := HNK.out j HKL.out hh
              obtain ⟨i, hi⟩ : ∃ i, i = j - goneN l j := ⟨_, rfl⟩
              rw [← hi] at z2
              have HY := hid (HX.out.trans (by rw [if_neg (by rw [hh]; decide), ← hi]))
              have HS := hid (HFI.out i z2 A3 c3 w6 HB6.out HRN6.out)
              generalize szN ss pl rows pl.length i = zz at HY HS
              have q8 : (j : Int) - (goneN l j : Int) = (i : Int) := by omega
              have q9 : goneN l j ≤ j := by omega
              generalize goneN l j = gk at q8 q9 ⊢
              clear hh hi z1 z2 HNH HNK HX HHO HGS HGL HG0 HND HD1 HKN HIN HFI
              go_wp2_with (first | (go_at_call 64; refine HS.out.mono ?_; rintro e w7 ⟨v, rfl, hsz, hb7⟩; obtain ⟨T, r, K, rfl, hmm, hf, hcc⟩ := hsz; have HCC := hid hcc; have hm2 := hmm 300; have HB7 := hid (bnext0 HB6.out hb7); clear hb7 hcc hmm p0 p1 p3 p4) | (refine (HCC.out _ (Below.refl _ _)).mono ?_; rintro e w8 ⟨rfl, hb8⟩; have HB8 := hid (bnext0 HB7.out hb8); clear hb8))
              go_ret3
              exact ⟨by rw [HY.out]; rfl, HB1.out.trans (HB8.out.mono HB1.out.size)⟩
            · have hh : honB l j = true := by rw [hh0]; rfl
              clear hd1 hh0
              obtain ⟨z1, z2, z3⟩ := HNH.out j HKL.out hh
              obtain ⟨i, hi⟩ : ∃ i, i = j - 1 - goneN l j := ⟨_, rfl⟩
              rw [← hi] at z2 z3
              have HY := hid (HX.out.trans (by rw [if_pos hh, ← hi]))
              have HS := hid (HIN.out i z2 z3 A3 c3 w6 HB6.out HRN6.out)
              generalize inZ rows pl (szN ss pl rows pl.length) i = zz at HY HS
              have q8 : (j : Int) - (goneN l j : Int) - 1 = (i : Int) := by omega
              have q9 : goneN l j ≤ j := by omega
              generalize goneN l j = gk at q8 q9 ⊢
              clear hh hi z1 z2 z3 HNH HNK HX HHO HGS HGL HG0 HND HD1 HKN HIN HFI
              go_wp2_with (first | (go_at_call 63; refine HS.out.mono ?_; rintro e w7 ⟨v, rfl, hsz, hb7⟩; obtain ⟨T, r, K, rfl, hmm, hf, hcc⟩ := hsz; have HCC := hid hcc; have hm2 := hmm 300; have HB7 := hid (bnext0 HB6.out hb7); clear hb7 hcc hmm p0 p1 p3 p4) | (refine (HCC.out _ (Below.refl _ _)).mono ?_; rintro e w8 ⟨rfl, hb8⟩; have HB8 := hid (bnext0 HB7.out hb8); clear hb8))
              go_ret3
              exact ⟨by rw [HY.out]; rfl, HB1.out.trans (HB8.out.mono HB1.out.size)⟩
          · have hh : honB l j = false := by rw [hh0]; simp [h7]
            have e7 : (kk == 7) = false := by simp [h7]
            clear hd1 hh0 h7
            obtain ⟨z1, z2⟩ := HNK.out j HKL.out hh
            obtain ⟨i, hi⟩ : ∃ i, i = j - goneN l j := ⟨_, rfl⟩
            rw [← hi] at z2
            have HY := hid (HX.out.trans (by rw [if_neg (by rw [hh]; decide), ← hi]))
            have HS := hid (HFI.out i z2 A3 c3 w6 HB6.out HRN6.out)
            generalize szN ss pl rows pl.length i = zz at HY HS
            have q8 : (j : Int) - (goneN l j : Int) = (i : Int) := by omega
            have q9 : goneN l j ≤ j := by omega
            generalize goneN l j = gk at q8 q9 ⊢
            clear hh hi z1 z2 HNH HNK HX HHO HGS HGL HG0 HND HD1 HKN HIN HFI
            go_wp2_with (first | (go_at_call 64; refine HS.out.mono ?_; rintro e w7 ⟨v, rfl, hsz, hb7⟩; obtain ⟨T, r, K, rfl, hmm, hf, hcc⟩ := hsz; have HCC := hid hcc; have hm2 := hmm 300; have HB7 := hid (bnext0 HB6.out hb7); clear hb7 hcc hmm p0 p1 p3 p4) | (refine (HCC.out _ (Below.refl _ _)).mono ?_; rintro e w8 ⟨rfl, hb8⟩; have HB8 := hid (bnext0 HB7.out hb8); clear hb8))
            go_ret3
            exact ⟨by rw [HY.out]; rfl, HB1.out.trans (HB8.out.mono HB1.out.size)⟩
    · have HX := hid (hk.trans (if_neg hnu))
      generalize hpl : plR l l.length = pl at *
      generalize hrw : decide (d ≤ 2) = rows at *
      generalize natV P ss l d wd nu = V at *
      clear HRN rn
      generalize l.length = n at *
      generalize ss.length = N at *
      clear hk hbad hok hb hck hw1 hb1 hdoc rs hv HV HRS hp hval hpl hrw HNH HNK HD1 HKN
      go_enter Try.func31, Try.ntmps31
      go_upto_region 1 with (fail)
      simp only [Nat.add_assoc, Nat.reduceAdd]
      rw [← HW1.out]
      clear HW1
      obtain ⟨B0, hB0⟩ : ∃ B0, B0 = w.heap.size := ⟨_, rfl⟩
      obtain ⟨B1, hB1⟩ : ∃ B1, B1 = B0 + 1 := ⟨_, rfl⟩
      obtain ⟨B2, hB2⟩ : ∃ B2, B2 = B0 + 2 := ⟨_, rfl⟩
      rw [← hB0] at HC
      rw [← hB1, ← hB2] at HC
      rw [← hB0]
      try rw [← hB1]
      try rw [← hB2]
      clear hB0 hB1 hB2
      have hc := HC.out w1 (Below.refl _ _)
      have p0 := hc.c0; have p1 := hc.c1; have p2 := hc.c2; have p3 := hc.c3; have p4 := hc.c4
      clear hc
      by_cases h0 : nu < 0
      · have q1 : decide (nu < 0) = true := decide_eq_true h0
        clear hnu h0
        go_upto_region 2 with (first | (go_at_call 46; refine HBG2.out.mono ?_; rintro e w2 ⟨A3, c3, rfl, hr, hb2⟩; have HR2 := hid hr; have HB2 := hid hb2; clear p0 p1 p2 p3 p4 hr hb2))
        have HB3 := hid (bnext0 HB2.out ((Below.refl w2.heap.size w2).alloc (Nat.le_refl _) (.cells #[.int .i64 P, .slice A N c, .slice A3 pl.length c3, .bool rows] 93)))
        have p2 := (HC.out _ HB3.out).c2
        go_wp2_with fail
        go_ret3
        exact ⟨by rw [HX.out]; rfl, HB1.out.trans (HB3.out.mono HB1.out.size)⟩
      · have q1 : decide (nu < 0) = false := decide_eq_false h0
        have q2 : decide ((n : Int) ≤ nu) = true := decide_eq_true (by omega)
        clear hnu h0
        go_upto_region 2 with (first | (go_at_call 46; refine HBG2.out.mono ?_; rintro e w2 ⟨A3, c3, rfl, hr, hb2⟩; have HR2 := hid hr; have HB2 := hid hb2; clear p0 p1 p2 p3 p4 hr hb2))
        have HB3 := hid (bnext0 HB2.out ((Below.refl w2.heap.size w2).alloc (Nat.le_refl _) (.cells #[.int .i64 P, .slice A N c, .slice A3 pl.length c3, .bool rows] 93)))
        have p2 := (HC.out _ HB3.out).c2
        go_wp2_with fail
        go_ret3
        exact ⟨by rw [HX.out]; rfl, HB1.out.trans (HB3.out.mono HB1.out.size)⟩
  · have HX := hid (hbad hb)
    have e0 : (begE P ss l d wd != 0) = true := by simpa using hb
    have HBG2 := hid (HBG.out.mono fun (e : Ending) (w' : World) (h : BegPost P ss l d wd A c w1 e w') => (show e = .returned (.tuple #[.agg #[.int .i64 0, .slice none 0 0, .slice none 0 0, .bool false], .int .i64 (begE P ss l d wd)]) ∧ Below w1.heap.size w1 w' from by
      obtain ⟨h1, h2 | ⟨h2, _⟩⟩ := h
      · exact ⟨h2.2, h1⟩
      · exact absurd h2 hb))
    clear HBG
    generalize begE P ss l d wd = BE at *
    generalize natV P ss l d wd nu = V at *
    generalize ss.length = N at *
    generalize l.length = n at *
    clear hbad hok hb hw1 hb1 hdoc rs rn hv HV HRS HRN
    go_enter Try.func31, Try.ntmps31
    go_upto_region 1 with (fail)
    simp only [Nat.add_assoc, Nat.reduceAdd]
    rw [← HW1.out]
    clear HW1
    obtain ⟨B0, hB0⟩ : ∃ B0, B0 = w.heap.size := ⟨_, rfl⟩
    obtain ⟨B1, hB1⟩ : ∃ B1, B1 = B0 + 1 := ⟨_, rfl⟩
    obtain ⟨B2, hB2⟩ : ∃ B2, B2 = B0 + 2 := ⟨_, rfl⟩
    rw [← hB0] at HC
    rw [← hB1, ← hB2] at HC
    rw [← hB0]
    try rw [← hB1]
    try rw [← hB2]
    clear hB0 hB1 hB2
    have hc := HC.out w1 (Below.refl _ _)
    have p0 := hc.c0; have p1 := hc.c1; have p2 := hc.c2; have p3 := hc.c3; have p4 := hc.c4
    clear hc
    go_upto_region 2 with (first | (go_at_call 46; refine HBG2.out.mono ?_; rintro e w2 ⟨rfl, hb2⟩; have HB2 := hid hb2; clear p0 p1 p2 p3 p4 hb2))
    have HB3 := hid (bnext0 HB2.out ((Below.refl w2.heap.size w2).alloc (Nat.le_refl _) (.cells #[.int .i64 0, .slice none 0 0, .slice none 0 0, .bool false] 93)))
    go_wp2_with fail
    go_ret3
    exact ⟨by rw [HX.out]; rfl, HB1.out.trans (HB3.out.mono HB1.out.size)⟩
end Go.Proofs.Ytfkcpcdndleboaa
