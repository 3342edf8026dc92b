/- WALK: the groups where they stand (printed by gen_groupsw.py). -/
import Derived.Test.YtimblabaeclhpaaGreatScaleW
namespace Go.Proofs.YtimblabaeclhpaaGreat
open Go.RowKit
/-- A group in a box. -/
def GpB (W : World) (b : Nat) (g : Gp) : Prop := W.heap[b]? = some (.cells #[.int .i64 g.node, .int .i64 g.s.n, .int .i64 g.s.d, .int .i64 g.c.1, .int .i64 g.c.2] 103 (0, 0))
structure GpC (W : World) (b : Nat) (g : Gp) : Prop where
  k0 : W.cell? ⟨b, 0, none⟩ = some (.int .i64 g.node)
  k1 : W.cell? ⟨b, 1, none⟩ = some (.int .i64 g.s.n)
  k2 : W.cell? ⟨b, 2, none⟩ = some (.int .i64 g.s.d)
  k3 : W.cell? ⟨b, 3, none⟩ = some (.int .i64 g.c.1)
  k4 : W.cell? ⟨b, 4, none⟩ = some (.int .i64 g.c.2)
  z3 : W.frozen? ⟨b, 3, none⟩ = false
  z4 : W.frozen? ⟨b, 4, none⟩ = false
theorem GpB.cells {W : World} {b : Nat} {g : Gp} (h : GpB W b g) : GpC W b g := by
  unfold GpB at h
  constructor <;> simp [World.cell?, World.frozen?, h]
theorem GpB.below {W W' : World} {b : Nat} {g : Gp} (h : GpB W b g) (hb : Below W.heap.size W W') : GpB W' b g := (hb.block b (lt_of_block h)).trans h
theorem GpB.far {W : World} {b b' k : Nat} {g : Gp} {v : Value} (h : GpB W b g) (hne : b' ≠ b) : GpB (W.setCell ⟨b', k, none⟩ v) b g := by
  unfold GpB at h ⊢
  simp [World.setCell, Array.getElem?_modify, hne, h]
theorem GpB.set34 {W : World} {b k : Nat} {s : Fr} {c : Int × Int} {x y : Int} (h : GpB W b ⟨k, s, c⟩) : GpB ((W.setCell ⟨b, 3, none⟩ (.int .i64 x)).setCell ⟨b, 4, none⟩ (.int .i64 y)) b ⟨k, s, (x, y)⟩ := by
  unfold GpB at h ⊢
  simp [World.setCell, h, Array.getElem?_modify] <;> rfl
theorem Tryz.underGps : Tryz.prog.underlying 100 = some (.slice 103) := by kernel_rfl
theorem Tryz.infoGp : (Tryz.prog.info? 103).map (fun i => (i.zero, i.size, i.bytes)) = some (some (.agg #[.int .i64 0, .int .i64 0, .int .i64 0, .int .i64 0, .int .i64 0]), 5, 40) := by kernel_rfl
/-- A length that a group may have, its numbers small. -/
structure LgB (x : Fr) : Prop where
  ok : LgOk x
  d1 : x.d ≤ 6600
theorem gL_bd {P : Int} {ss : List Sg} {l : List Nd} {rows : Bool} (hp : Pln P ss l) {i : Nat} (hi : i < l.length) : LgB (gL ss l rows i) := by
  have hsc := gS_ok (rows := rows) hp hi
  have h := frR_le (n := gAl ss l rows i * (gS ss l rows i).n) hsc.d0
  have := hsc.d1
  exact ⟨gL_ok hp hi, by unfold gL; omega⟩
theorem LgB.n1 {x : Fr} (h : LgB x) : 0 < x.n ∧ x.n ≤ 174240000 := by
  have h1 := h.ok.n0; have h2 := h.ok.hi; have h3 := h.d1
  have : 26400 * x.d ≤ 26400 * 6600 := by omega
  omega
theorem LgB.sum {x : Fr} (h : LgB x) {a : Int} (a0 : 0 ≤ a) (a1 : a ≤ 100000) : SumOk (whF a) x := by
  have h1 := h.n1; have h2 := h.ok.d0; have h3 := h.d1
  exact ⟨by show (0 : Int) < 1; omega, h2, by show (1 : Int) ≤ _; omega, by omega, by show a.natAbs ≤ _; omega, by omega⟩
theorem LgB.add_bd {x : Fr} (h : LgB x) {a : Int} (a0 : 0 ≤ a) (a1 : a ≤ 100000) : (0 < ((whF a).add x).d ∧ ((whF a).add x).d ≤ 6600) ∧ ((whF a).add x).n.natAbs ≤ 1000000000 := by
  have h1 := h.n1; have h2 := h.ok.d0; have h3 := h.d1
  have e : (whF a).add x = frR (a * x.d + x.n * 1) (1 * x.d) := rfl
  have hm : a * x.d ≤ 100000 * 6600 := Int.mul_le_mul a1 h3 (by omega) (by omega)
  have hm0 : 0 ≤ a * x.d := Int.mul_nonneg a0 (by omega)
  have b1 := frR_pos (n := a * x.d + x.n * 1) (d := 1 * x.d) (by omega)
  have b2 := frR_le (n := a * x.d + x.n * 1) (d := 1 * x.d) (by omega)
  have b3 := frR_abs (n := a * x.d + x.n * 1) (d := 1 * x.d) (by omega)
  rw [e]
  exact ⟨⟨b1, by omega⟩, by omega⟩
theorem cmp_gt {x y : Fr} : 0 < cmpF x y ↔ y.lt x := by
  unfold cmpF
  by_cases h1 : x.lt y
  · have h2 : ¬ y.lt x := by unfold Fr.lt at h1 ⊢; omega
    rw [if_pos h1]
    exact ⟨fun h => by omega, fun h => absurd h h2⟩
  · rw [if_neg h1]
    by_cases h2 : y.lt x
    · rw [if_pos h2]; exact ⟨fun _ => h2, fun _ => by omega⟩
    · rw [if_neg h2]; exact ⟨fun h => by omega, fun h => absurd h h2⟩
set_option maxRecDepth 100000 in
set_option maxHeartbeats 8000000 in
theorem groups_any (P : Int) (ss : List Sg) (l : List Nd) (rows : Bool) (hp : Pln P ss l) (hsl : ss.length ≤ 1000000) (hsv : ∀ s ∈ ss, s.vals.length ≤ 1000000 ∧ s.vals.length ≤ s.vc) (len : Int) (hl0 : 0 ≤ len) (hl1 : len ≤ 4800) (A A2 : Option Addr) (c c2 : Nat) (w : World) (rs : Sgs w w.heap.size A ss) (rn : Nds w w.heap.size A2 l) :
    Calls Tryz.prog 35 #[.agg #[.int .i64 P, .slice A ss.length c, .slice A2 l.length c2, .bool rows], .int .i64 len] w fun e w' => ∃ v, e = .returned v ∧ w'.ownsRow w.heap.size 103 5 v (grpL ss l rows len).length (flatG (grpL ss l rows len)) ∧ Below w.heap.size w w' := by
  have hn := hp.len
  obtain ⟨w1, hw1⟩ : ∃ w1, w1 = w.alloc (.cells #[.int .i64 P, .slice A ss.length c, .slice A2 l.length c2, .bool rows] 69) := ⟨_, rfl⟩
  have hb1 : Below w.heap.size w w1 := by rw [hw1]; exact (Below.refl _ _).alloc (Nat.le_refl _) _
  have hz1 : w1.heap.size = w.heap.size + 1 := by rw [hw1]; simp
  have c0 : w1.cell? ⟨w.heap.size, 0, none⟩ = some (.int .i64 P) := by rw [hw1]; exact cell_here rfl rfl
  have c1 : w1.cell? ⟨w.heap.size, 1, none⟩ = some (.slice A ss.length c) := by rw [hw1]; exact cell_here rfl rfl
  have c2' : w1.cell? ⟨w.heap.size, 2, none⟩ = some (.slice A2 l.length c2) := by rw [hw1]; exact cell_here rfl rfl
  have c3 : w1.cell? ⟨w.heap.size, 3, none⟩ = some (.bool rows) := by rw [hw1]; exact cell_here rfl rfl
  have HC := hid fun (W : World) (h : Below w1.heap.size w1 W) => (show W.cell? ⟨w.heap.size, 0, none⟩ = some (.int .i64 P) ∧ W.cell? ⟨w.heap.size, 1, none⟩ = some (.slice A ss.length c) ∧ W.cell? ⟨w.heap.size, 2, none⟩ = some (.slice A2 l.length c2) ∧ W.cell? ⟨w.heap.size, 3, none⟩ = some (.bool rows) from
    ⟨(h.cell (by show w.heap.size < _; omega)).trans c0, (h.cell (by show w.heap.size < _; omega)).trans c1, (h.cell (by show w.heap.size < _; omega)).trans c2', (h.cell (by show w.heap.size < _; omega)).trans c3⟩)
  have HRN := hid fun (W : World) (h : Below w1.heap.size w1 W) => (show Nds W W.heap.size A2 l from Reads.more (rn.below (hb1.trans (h.mono hb1.size))) (Nat.le_trans hb1.size h.size))
  have HRS := hid fun (W : World) (h : Below w1.heap.size w1 W) => (show Sgs W W.heap.size A ss from (rs.below (hb1.trans (h.mono hb1.size))).more (Nat.le_trans hb1.size h.size))
  have HLE := hid fun (k : Nat) (hk : k < l.length) (W : World) (h : Below w1.heap.size w1 W) => lend_any P A ss.length c rows l k hk (by omega) A2 c2 W (HRN.out W h)
  have HSC := hid fun (k : Nat) (hk : k < l.length) (W : World) (h : Below w1.heap.size w1 W) => scale_any P ss l rows hp hsl hsv k hk A A2 c c2 W (HRS.out W h) (HRN.out W h)
  have HAL := hid fun (k : Nat) (hk : k < l.length) (ln a : Int) (W : World) (h : Below w1.heap.size w1 W) => along_any P ss l rows hp hsl hsv k hk ln a A A2 c c2 W (HRS.out W h) (HRN.out W h)
  have hml := kidsOf_len (l := l) (node := -1) (by omega)
  have HPO := hid fun (j : Nat) (hj : j < (kidsOf l (-1)).length) => (show ∃ (k : Nat), k < l.length ∧ posG l j = k ∧ endOf l k = posG l (j + 1) ∧ posG l j < posG l (j + 1) ∧ LgB (gL ss l rows k) ∧
      grpJ ss l rows len (j + 1) = grpJ ss l rows len j ++ [⟨k, gS ss l rows k, stq len (stJ ss l rows len j) (gL ss l rows k)⟩] ∧ stJ ss l rows len (j + 1) = stn (stq len (stJ ss l rows len j) (gL ss l rows k)) (gL ss l rows k) ∧ gL ss l rows k = frR (gAl ss l rows k * (gS ss l rows k).n) (gS ss l rows k).d ∧ 0 < (gS ss l rows k).d from
    ⟨(kidsOf l (-1))[j], grp_mem (List.getElem_mem hj), posG_at hj, by rw [posG_s hj, posG_at hj], by rw [posG_s hj]; exact endOf_gt _ _, gL_bd hp (grp_mem (List.getElem_mem hj)), grpJ_s hj, stJ_s hj, rfl, (gS_ok hp (grp_mem (List.getElem_mem hj))).d0⟩)
  have HST := hid fun (j : Nat) (hj : j ≤ (kidsOf l (-1)).length) => (show ((0 ≤ (stJ ss l rows len j).1 ∧ (stJ ss l rows len j).1 ≤ 200) ∧ 0 ≤ (stJ ss l rows len j).2 ∧ (stJ ss l rows len j).2 ≤ 31224) ∧ (grpJ ss l rows len j).length = j ∧ posG l j ≤ l.length from by
    have h := stJ_ok (rows := rows) (len := len) hp hl0 hj
    have a1 := h.l0; have a2 := h.l1; have a3 := h.a0; have a4 := h.a1
    exact ⟨⟨⟨a1, by omega⟩, a3, by omega⟩, grpJ_len hj, posG_le hj⟩)
  have HP0 := hid (posG_0 l)
  have HPE := hid (posG_end l)
  have HGE := hid (show grpJ ss l rows len (kidsOf l (-1)).length = grpL ss l rows len ∧ (grpL ss l rows len).length = (kidsOf l (-1)).length from ⟨grpJ_end, grpL_len⟩)
  have HG0 := hid (grpJ_0 (ss := ss) (l := l) (rows := rows) (len := len))
  have HS0 := hid (stJ_0 (ss := ss) (l := l) (rows := rows) (len := len))
  obtain ⟨m, hm⟩ : ∃ m, m = (kidsOf l (-1)).length := ⟨_, rfl⟩
  obtain ⟨n, hnn⟩ : ∃ n, n = l.length := ⟨_, rfl⟩
  obtain ⟨N, hN⟩ : ∃ N, N = ss.length := ⟨_, rfl⟩
  rw [← hm] at HPO HST HPE HGE hml
  rw [← hnn] at HLE HSC HAL HPO HST HPE HC c2' hw1 hn hml ⊢
  rw [← hN] at HLE HSC HAL HC c1 hw1 ⊢
  rw [HGE.out.2]
  have HW1 := hid hw1; have HB1 := hid hb1; have HZ1 := hid hz1
  clear hw1 hb1 rs rn hnn hN hm hz1 c0 c1 c2' c3 HRN HRS hp hsv hsl
  generalize hgp : grpL ss l rows len = GP at HGE ⊢
  clear hgp
  go_enter Tryz.func35, Tryz.ntmps35
  go_upto_region 1 with (fail)
  rw [← HW1.out]
  clear HW1
  obtain ⟨B0, hB0⟩ : ∃ B0, B0 = w.heap.size := ⟨_, rfl⟩
  rw [← hB0] at HC
  rw [← hB0]
  have HB0 := hid hB0
  clear hB0
  go_wp2_with fail
  go_loopw [5, 6, 7, 8] (fun v ln a nd wr => ∃ j : Nat, j ≤ m ∧ nd = .int .i64 (posG l j) ∧ ln = .int .i64 (stJ ss l rows len j).1 ∧ a = .int .i64 (stJ ss l rows len j).2 ∧ Hid (wr.ownsRow (B0 + 1) 103 5 v j (flatG (grpJ ss l rows len j))) ∧ Hid (Below w1.heap.size w1 wr)) (fun _ _ _ nd _ => n - (intOf nd).toNat)
  case atStart => exact ⟨0, by omega, by rw [HP0.out]; rfl, by rw [HS0.out], by rw [HS0.out], hid (by rw [HG0.out]; exact World.ownsRow_nil _ _ _ _), hid (Below.refl _ _)⟩
  case round =>
    obtain ⟨j, hj, rfl, rfl, rfl, hO, hB⟩ := hrel
    obtain ⟨p0, p1, p2, p3⟩ := HC.out wr hB.out
    by_cases hjm : j < m
    · obtain ⟨k, hk, hpk, hek, hpl, hlg, hgj, hsj, hfr, hsd⟩ := HPO.out j hjm
      obtain ⟨⟨⟨b1, b2⟩, b3, b4⟩, b5, b6⟩ := HST.out j hj
      obtain ⟨_, _, b7⟩ := HST.out (j + 1) (by omega)
      have hjn : j ≤ 200 := by omega
      have HA1 := hid (HSC.out k hk wr hB.out)
      have HA2 := hid fun (ln a : Int) (W : World) (h : Below w1.heap.size w1 W) => HAL.out k hk ln a W h
      have HA3 := hid fun (W : World) (h : Below w1.heap.size w1 W) => HLE.out k hk W h
      have HPK := hid (show posG l (j + 1) = endOf l k from hek.symm)
      have hlt : k < endOf l k ∧ endOf l k ≤ n := by omega
      have HCE := hid fun (a : Int) => (show ceilF ((whF a).add (gL ss l rows k)) = a + ceilF (gL ss l rows k) from by rw [hfr]; exact ceil_whole a hsd)
      rw [hpk]
      clear hpk hek hpl hfr hsd b7 b6 b5
      obtain ⟨ct, hct⟩ : ∃ ct, ct = stq len (stJ ss l rows len j) (gL ss l rows k) := ⟨_, rfl⟩
      rw [← hct] at hgj hsj
      have HGJ := hid hgj; have HSJ := hid hsj
      clear hgj hsj
      generalize stJ ss l rows len j = st at *
      generalize gL ss l rows k = x at *
      generalize gX ss l rows k = xx at *
      generalize gS ss l rows k = s at *
      generalize grpJ ss l rows len j = GJ at *
      obtain ⟨ln, a⟩ := st
      simp only [] at b1 b2 b3 b4 hct ⊢
      have hstq : ct = if 0 < a ∧ (whF len).lt ((whF a).add x) then (ln + 1, 0) else (ln, a) := hct
      have HLG := hid hlg; have HSQ := hid hstq
      clear hlg hstq hct
      have g0 : (k : Int) < (n : Int) := by omega
      go_upto_region 8 with (first | (go_at_call 57; refine HA1.out.mono ?_; rintro e w2 ⟨rfl, hb2⟩; have HB2 := hid hb2; have HX2 := hid (show Below wr.heap.size wr (w2.alloc (.cells #[.int .i64 k, .int .i64 s.n, .int .i64 s.d, .int .i64 ln, .int .i64 a] 103)) from hb2.alloc hb2.size _); have HY2 := hid (show Below w1.heap.size w1 (w2.alloc (.cells #[.int .i64 k, .int .i64 s.n, .int .i64 s.d, .int .i64 ln, .int .i64 a] 103)) from bnext0 hB.out HX2.out); obtain ⟨s0, s1, s2, s3⟩ := HC.out _ HY2.out; clear hb2 p0 p1 p2 p3) | (go_at_call 36; refine (HA2.out ln a _ HY2.out).mono ?_; rintro e w4 ⟨rfl, hb4⟩; have HB4 := hid hb4; clear hb4 s0 s1 s2 s3))
      obtain ⟨b9, hb9⟩ : ∃ b9, b9 = w2.heap.size := ⟨_, rfl⟩
      obtain ⟨b10, hb10⟩ : ∃ b10, b10 = w4.heap.size := ⟨_, rfl⟩
      obtain ⟨w5, hw5⟩ : ∃ w5, w5 = (w4.alloc (.cells #[.int .i64 x.n, .int .i64 x.d] 42)).alloc (.cells #[.int .i64 xx.n, .int .i64 xx.d] 42) := ⟨_, rfl⟩
      have hgp4 : GpB w4 b9 ⟨k, s, (ln, a)⟩ := GpB.below (W := w2.alloc (.cells #[.int .i64 k, .int .i64 s.n, .int .i64 s.d, .int .i64 ln, .int .i64 a] 103)) (by rw [hb9]; exact nw_blk rfl) HB4.out
      have hx4 : Below wr.heap.size wr w4 := HX2.out.trans (HB4.out.mono HX2.out.size)
      have hbr : Below wr.heap.size wr w5 := by rw [hw5]; exact (hx4.alloc hx4.size _).alloc (by have := hx4.size; simp; omega) _
      have HFX := hid (show FrB w5 b10 x by rw [hw5, hb10]; exact old_blk (nw_blk rfl))
      have HGP := hid (show GpB w5 b9 ⟨k, s, (ln, a)⟩ by rw [hw5]; exact old_blk (old_blk hgp4))
      have h910 : b9 ≠ b10 := by have := lt_of_block hgp4; omega
      have hr9 : wr.heap.size ≤ b9 := by rw [hb9]; exact HB2.out.size
      have HBR := hid hbr
      rw [← hw5, ← hb10]
      try rw [← hb9]
      clear hb9 hb10 hw5 hgp4 hx4 hbr HA1 HA2 HB2 HB4 HX2 HY2
      obtain ⟨l2, a2⟩ := ct
      have hlg := HLG.out
      have hs1 := hlg.sum b3 (by omega)
      have hs2 := hlg.add_bd b3 (by omega)
      have HWA := hid fun W : World => wholeP_any a W
      have HWL := hid fun W : World => wholeP_any len W
      have HAD := hid fun W : World => addP_any (whF a) x hs1 W
      have HCM := hid fun W : World => compareP_any ((whF a).add x) (whF len) ⟨hs2.1.1, by show (0 : Int) < 1; omega, by omega, by show (1 : Int) ≤ _; omega, by omega, by show len.natAbs ≤ _; omega⟩ W
      have HGT := hid (cmp_gt (x := (whF a).add x) (y := whF len))
      have hsq := HSQ.out
      clear HSQ
      by_cases hq : 0 < a ∧ (whF len).lt ((whF a).add x)
      · skip
        rw [if_pos hq] at hsq
        have e1 : decide ((0 : Int) < a) = true := decide_eq_true hq.1
        have e2 : decide ((0 : Int) < cmpF ((whF a).add x) (whF len)) = true := decide_eq_true (HGT.out.2 hq.2)
        simp only [Prod.mk.injEq] at hsq
        obtain ⟨hq1, hq2⟩ := hsq
        clear hq hs1 hs2 hlg HGT
        generalize cmpF ((whF a).add x) (whF len) = cm at *
        generalize (whF a).add x = y at *
        generalize whF a = fa at *
        generalize whF len = fl at *
        have Hq1 := hid hq1; have Hq2 := hid hq2
        have d0 : 0 ≤ a2 := by omega
        have d1 : a2 ≤ 31224 := by omega
        clear hq1 hq2
        have cz := fun z : BW w5.heap.size w5 => (HFX.out.below z.ok).cells
        have k1 := fun z => (cz z).1.1
        have k2 := fun z => (cz z).1.2
        clear cz
        have HZA := hid (below_class (wb := w5) (Nat.le_refl w5.heap.size) fun z => HWA.out z.val)
        have HZB := hid (below_class (wb := w5) (Nat.le_refl w5.heap.size) fun z => HWL.out z.val)
        have HZC := hid (below_class (wb := w5) (Nat.le_refl w5.heap.size) fun z => HAD.out z.val)
        have HZD := hid (below_class (wb := w5) (Nat.le_refl w5.heap.size) fun z => HCM.out z.val)
        clear HWA HWL HAD HCM
        refine region_below (by kernel_rfl) (by kernel_rfl) (Below.refl w5.heap.size w5) ?_
        repeat (go_big_quiet_step (first | (go_at_call 37; with_reducible exact (HZA.out _)) | (go_at_call 37; with_reducible exact (HZB.out _)) | (go_at_call 38; with_reducible exact (HZC.out _)) | (go_at_call 58; with_reducible exact (HZD.out _))))
        refine wpQuiet_nil ?_
        intro _ hw'
        obtain ⟨z, rfl⟩ := hw'
        have hgz := HGP.out.below z.ok
        have HGZ := hid hgz
        have HFZ := hid (HFX.out.below z.ok)
        have HRZ := hid (HBR.out.trans (z.ok.mono HBR.out.size))
        have hgc := hgz.cells
        have i3 := hgc.k3; have i4 := hgc.k4; have z3 := hgc.z3; have z4 := hgc.z4
        clear k1 k2 hgz hgc HZA HZB HZC HZD e1
        go_upto_region 11 with (fail)
        obtain ⟨w7, hw7⟩ : ∃ w7, w7 = (z.val.setCell ⟨b9, 3, none⟩ (.int .i64 (ln + 1))).setCell ⟨b9, 4, none⟩ (.int .i64 0) := ⟨_, rfl⟩
        have HG7 := hid (show GpB w7 b9 ⟨k, s, (l2, a2)⟩ by rw [hw7, Hq1.out, Hq2.out]; exact HGZ.out.set34)
        have HF7 := hid (show FrB w7 b10 x by rw [hw7]; exact (HFZ.out.far h910).far h910)
        have HB7 := hid (show Below wr.heap.size wr w7 by rw [hw7]; exact (HRZ.out.setCell hr9 _).setCell hr9 _)
        rw [← hw7]
        clear hw7 HGZ HFZ HRZ HFX HGP HBR i3 i4 z3 z4
        have HWB := hid fun W : World => wholeP_any (a2 + 24) W
        have HAE := hid fun W : World => addP_any (whF (a2 + 24)) x (HLG.out.sum (by omega) (by omega)) W
        have HCL := hid fun W : World => ceilP_any ((whF (a2 + 24)).add x) (by have := (HLG.out.add_bd (a := a2 + 24) (by omega) (by omega)).2; omega) (HLG.out.add_bd (by omega) (by omega)).1.1 W
        rw [HCE.out (a2 + 24)] at HCL
        have hwr : IntKind.i64.wrap (a2 + 24) = a2 + 24 := wrapI (by omega) (by omega)
        generalize (whF (a2 + 24)).add x = y2 at *
        generalize whF (a2 + 24) = fb at *
        have HZA := hid (below_class (wb := w7) (Nat.le_refl w7.heap.size) fun z => HWB.out z.val)
        have HZB := hid (below_class (wb := w7) (Nat.le_refl w7.heap.size) fun z => HAE.out z.val)
        have HZC := hid (below_class (wb := w7) (Nat.le_refl w7.heap.size) fun z => HCL.out z.val)
        clear HWB HAE HCL
        have cz := fun z : BW w7.heap.size w7 => (HF7.out.below z.ok).cells
        have k1 := fun z => (cz z).1.1
        have k2 := fun z => (cz z).1.2
        have k3 := fun z : BW w7.heap.size w7 => (HG7.out.below z.ok).cells.k4
        clear cz
        refine region_below (by kernel_rfl) (by kernel_rfl) (Below.refl w7.heap.size w7) ?_
        repeat (go_big_quiet_step (first | (go_at_call 37; with_reducible exact (HZA.out _)) | (go_at_call 38; with_reducible exact (HZB.out _)) | (go_at_call 59; with_reducible exact (HZC.out _))))
        refine wpQuiet_nil ?_
        intro _ hw'
        obtain ⟨y7, rfl⟩ := hw'
        have hgc := (HG7.out.below y7.ok).cells
        have i0 := hgc.k0; have i1 := hgc.k1; have i2 := hgc.k2; have i3 := hgc.k3; have i4 := hgc.k4
        have HB8 := hid (HB7.out.trans (y7.ok.mono HB7.out.size))
        have HO8 := hid fun (X : Obj) => own_keep hO.out (HB8.out.alloc HB8.out.size X)
        have HBB := hid fun (X : Obj) => bnext0 hB.out (HB8.out.alloc HB8.out.size X)
        have HZ8 := hid (show w.heap.size + 1 ≤ y7.val.heap.size by have := HZ1.out; have := hB.out.size; have := HB8.out.size; omega)
        clear k1 k2 k3 hgc HZA HZB HZC HG7 HF7 hwr
        go_wp2_with (first | (at_builtin; go_loud (refine app_elemF rfl (.tmp 57) (.tmp 59) Tryz.underGps Tryz.infoGp rfl (by decide) (by decide) rfl (B0 + 1) _ j (flatG GJ) rfl (HO8.out _) ⟨y7.val.heap.size, 0, none⟩ [.int .i64 k, .int .i64 s.n, .int .i64 s.d, .int .i64 l2, .int .i64 a2] rfl rfl (fun q u h => by rw [Addr.add_lit]; exact cell_here rfl (by simpa using h)) (fun u hu => by simp at hu; rcases hu with rfl | rfl | rfl | rfl | rfl <;> rfl) (by omega) (by have h1 := HZ8.out; have h2 := HB0.out; simp; omega) ?_); intro v5 w9 ho9 hg9 hf9; have HO9 := hid (show w9.ownsRow (B0 + 1) 103 5 v5 (j + 1) (flatG (grpJ ss l rows len (j + 1))) from by rw [HGJ.out, flatG_app, flatG_one]; exact ho9); have HX9 := hid (show Below w1.heap.size w1 w9 from below_app (B' := B0 + 1) (HBB.out _) (HO8.out _) hg9 (by have := HZ1.out; have := HB0.out; omega) (by have := HZ1.out; have := HZ8.out; simp; omega)); obtain ⟨s0, s1, s2, s3⟩ := HC.out w9 HX9.out; clear ho9 hg9 hf9 i0 i1 i2 i3 i4) | (go_at_call 56; refine (HA3.out w9 HX9.out).mono ?_; rintro e w10 ⟨rfl, hb10⟩; have HO10 := hid (own_keep HO9.out hb10); have HX10 := hid (bnext0 HX9.out hb10); clear hb10 s0 s1 s2 s3))
        go_roundw
        case rel => exact ⟨j + 1, by omega, by rw [HPK.out], by rw [HSJ.out]; show _ = Value.int .i64 l2; rw [Hq1.out], by rw [HSJ.out]; rfl, HO10, HX10⟩
        case measure => simp [intOf]; omega
      · by_cases ha : 0 < a
        · skip
          rw [if_neg hq] at hsq
          have e1 : decide ((0 : Int) < a) = true := decide_eq_true ha
          have e2 : decide ((0 : Int) < cmpF ((whF a).add x) (whF len)) = false := decide_eq_false fun h => hq ⟨ha, HGT.out.1 h⟩
          simp only [Prod.mk.injEq] at hsq
          obtain ⟨hq1, hq2⟩ := hsq
          clear hq hs1 hs2 hlg HGT ha
          generalize cmpF ((whF a).add x) (whF len) = cm at *
          generalize (whF a).add x = y at *
          generalize whF a = fa at *
          generalize whF len = fl at *
          have Hq1 := hid hq1; have Hq2 := hid hq2
          have d0 : 0 ≤ a2 := by omega
          have d1 : a2 ≤ 31224 := by omega
          clear hq1 hq2
          have cz := fun z : BW w5.heap.size w5 => (HFX.out.below z.ok).cells
          have k1 := fun z => (cz z).1.1
          have k2 := fun z => (cz z).1.2
          clear cz
          have HZA := hid (below_class (wb := w5) (Nat.le_refl w5.heap.size) fun z => HWA.out z.val)
          have HZB := hid (below_class (wb := w5) (Nat.le_refl w5.heap.size) fun z => HWL.out z.val)
          have HZC := hid (below_class (wb := w5) (Nat.le_refl w5.heap.size) fun z => HAD.out z.val)
          have HZD := hid (below_class (wb := w5) (Nat.le_refl w5.heap.size) fun z => HCM.out z.val)
          clear HWA HWL HAD HCM
          refine region_below (by kernel_rfl) (by kernel_rfl) (Below.refl w5.heap.size w5) ?_
          repeat (go_big_quiet_step (first | (go_at_call 37; with_reducible exact (HZA.out _)) | (go_at_call 37; with_reducible exact (HZB.out _)) | (go_at_call 38; with_reducible exact (HZC.out _)) | (go_at_call 58; with_reducible exact (HZD.out _))))
          refine wpQuiet_nil ?_
          intro _ hw'
          obtain ⟨z, rfl⟩ := hw'
          have hgz := HGP.out.below z.ok
          have HGZ := hid hgz
          have HFZ := hid (HFX.out.below z.ok)
          have HRZ := hid (HBR.out.trans (z.ok.mono HBR.out.size))
          have hgc := hgz.cells
          have i3 := hgc.k3; have i4 := hgc.k4; have z3 := hgc.z3; have z4 := hgc.z4
          clear k1 k2 hgz hgc HZA HZB HZC HZD e1
          go_upto_region 11 with (fail)
          obtain ⟨w7, hw7⟩ : ∃ w7, w7 = z.val := ⟨_, rfl⟩
          have HG7 := hid (show GpB w7 b9 ⟨k, s, (l2, a2)⟩ by rw [hw7, Hq1.out, Hq2.out]; exact HGZ.out)
          have HF7 := hid (show FrB w7 b10 x by rw [hw7]; exact HFZ.out)
          have HB7 := hid (show Below wr.heap.size wr w7 by rw [hw7]; exact HRZ.out)
          rw [← hw7]
          clear hw7 HGZ HFZ HRZ HFX HGP HBR i3 i4 z3 z4
          have HWB := hid fun W : World => wholeP_any (a2 + 24) W
          have HAE := hid fun W : World => addP_any (whF (a2 + 24)) x (HLG.out.sum (by omega) (by omega)) W
          have HCL := hid fun W : World => ceilP_any ((whF (a2 + 24)).add x) (by have := (HLG.out.add_bd (a := a2 + 24) (by omega) (by omega)).2; omega) (HLG.out.add_bd (by omega) (by omega)).1.1 W
          rw [HCE.out (a2 + 24)] at HCL
          have hwr : IntKind.i64.wrap (a2 + 24) = a2 + 24 := wrapI (by omega) (by omega)
          generalize (whF (a2 + 24)).add x = y2 at *
          generalize whF (a2 + 24) = fb at *
          have HZA := hid (below_class (wb := w7) (Nat.le_refl w7.heap.size) fun z => HWB.out z.val)
          have HZB := hid (below_class (wb := w7) (Nat.le_refl w7.heap.size) fun z => HAE.out z.val)
          have HZC := hid (below_class (wb := w7) (Nat.le_refl w7.heap.size) fun z => HCL.out z.val)
          clear HWB HAE HCL
          have cz := fun z : BW w7.heap.size w7 => (HF7.out.below z.ok).cells
          have k1 := fun z => (cz z).1.1
          have k2 := fun z => (cz z).1.2
          have k3 := fun z : BW w7.heap.size w7 => (HG7.out.below z.ok).cells.k4
          clear cz
          refine region_below (by kernel_rfl) (by kernel_rfl) (Below.refl w7.heap.size w7) ?_
          repeat (go_big_quiet_step (first | (go_at_call 37; with_reducible exact (HZA.out _)) | (go_at_call 38; with_reducible exact (HZB.out _)) | (go_at_call 59; with_reducible exact (HZC.out _))))
          refine wpQuiet_nil ?_
          intro _ hw'
          obtain ⟨y7, rfl⟩ := hw'
          have hgc := (HG7.out.below y7.ok).cells
          have i0 := hgc.k0; have i1 := hgc.k1; have i2 := hgc.k2; have i3 := hgc.k3; have i4 := hgc.k4
          have HB8 := hid (HB7.out.trans (y7.ok.mono HB7.out.size))
          have HO8 := hid fun (X : Obj) => own_keep hO.out (HB8.out.alloc HB8.out.size X)
          have HBB := hid fun (X : Obj) => bnext0 hB.out (HB8.out.alloc HB8.out.size X)
          have HZ8 := hid (show w.heap.size + 1 ≤ y7.val.heap.size by have := HZ1.out; have := hB.out.size; have := HB8.out.size; omega)
          clear k1 k2 k3 hgc HZA HZB HZC HG7 HF7 hwr
          go_wp2_with (first | (at_builtin; go_loud (refine app_elemF rfl (.tmp 57) (.tmp 59) Tryz.underGps Tryz.infoGp rfl (by decide) (by decide) rfl (B0 + 1) _ j (flatG GJ) rfl (HO8.out _) ⟨y7.val.heap.size, 0, none⟩ [.int .i64 k, .int .i64 s.n, .int .i64 s.d, .int .i64 l2, .int .i64 a2] rfl rfl (fun q u h => by rw [Addr.add_lit]; exact cell_here rfl (by simpa using h)) (fun u hu => by simp at hu; rcases hu with rfl | rfl | rfl | rfl | rfl <;> rfl) (by omega) (by have h1 := HZ8.out; have h2 := HB0.out; simp; omega) ?_); intro v5 w9 ho9 hg9 hf9; have HO9 := hid (show w9.ownsRow (B0 + 1) 103 5 v5 (j + 1) (flatG (grpJ ss l rows len (j + 1))) from by rw [HGJ.out, flatG_app, flatG_one]; exact ho9); have HX9 := hid (show Below w1.heap.size w1 w9 from below_app (B' := B0 + 1) (HBB.out _) (HO8.out _) hg9 (by have := HZ1.out; have := HB0.out; omega) (by have := HZ1.out; have := HZ8.out; simp; omega)); obtain ⟨s0, s1, s2, s3⟩ := HC.out w9 HX9.out; clear ho9 hg9 hf9 i0 i1 i2 i3 i4) | (go_at_call 56; refine (HA3.out w9 HX9.out).mono ?_; rintro e w10 ⟨rfl, hb10⟩; have HO10 := hid (own_keep HO9.out hb10); have HX10 := hid (bnext0 HX9.out hb10); clear hb10 s0 s1 s2 s3))
          go_roundw
          case rel => exact ⟨j + 1, by omega, by rw [HPK.out], by rw [HSJ.out]; show _ = Value.int .i64 l2; rw [Hq1.out], by rw [HSJ.out]; rfl, HO10, HX10⟩
          case measure => simp [intOf]; omega
        · skip
          rw [if_neg hq] at hsq
          have e1 : decide ((0 : Int) < a) = false := decide_eq_false ha
          simp only [Prod.mk.injEq] at hsq
          obtain ⟨hq1, hq2⟩ := hsq
          clear hq hs1 hs2 hlg HGT ha
          generalize cmpF ((whF a).add x) (whF len) = cm at *
          generalize (whF a).add x = y at *
          generalize whF a = fa at *
          generalize whF len = fl at *
          have Hq1 := hid hq1; have Hq2 := hid hq2
          have d0 : 0 ≤ a2 := by omega
          have d1 : a2 ≤ 31224 := by omega
          clear hq1 hq2
          have cz := fun z : BW w5.heap.size w5 => (HFX.out.below z.ok).cells
          have k1 := fun z => (cz z).1.1
          have k2 := fun z => (cz z).1.2
          clear cz
          have HZA := hid (below_class (wb := w5) (Nat.le_refl w5.heap.size) fun z => HWA.out z.val)
          have HZB := hid (below_class (wb := w5) (Nat.le_refl w5.heap.size) fun z => HWL.out z.val)
          have HZC := hid (below_class (wb := w5) (Nat.le_refl w5.heap.size) fun z => HAD.out z.val)
          have HZD := hid (below_class (wb := w5) (Nat.le_refl w5.heap.size) fun z => HCM.out z.val)
          clear HWA HWL HAD HCM
          refine region_below (by kernel_rfl) (by kernel_rfl) (Below.refl w5.heap.size w5) ?_
          repeat (go_big_quiet_step (first | (go_at_call 37; with_reducible exact (HZA.out _)) | (go_at_call 37; with_reducible exact (HZB.out _)) | (go_at_call 38; with_reducible exact (HZC.out _)) | (go_at_call 58; with_reducible exact (HZD.out _))))
          refine wpQuiet_nil ?_
          intro _ hw'
          obtain ⟨z, rfl⟩ := hw'
          have hgz := HGP.out.below z.ok
          have HGZ := hid hgz
          have HFZ := hid (HFX.out.below z.ok)
          have HRZ := hid (HBR.out.trans (z.ok.mono HBR.out.size))
          have hgc := hgz.cells
          have i3 := hgc.k3; have i4 := hgc.k4; have z3 := hgc.z3; have z4 := hgc.z4
          clear k1 k2 hgz hgc HZA HZB HZC HZD e1
          go_upto_region 11 with (fail)
          obtain ⟨w7, hw7⟩ : ∃ w7, w7 = z.val := ⟨_, rfl⟩
          have HG7 := hid (show GpB w7 b9 ⟨k, s, (l2, a2)⟩ by rw [hw7, Hq1.out, Hq2.out]; exact HGZ.out)
          have HF7 := hid (show FrB w7 b10 x by rw [hw7]; exact HFZ.out)
          have HB7 := hid (show Below wr.heap.size wr w7 by rw [hw7]; exact HRZ.out)
          rw [← hw7]
          clear hw7 HGZ HFZ HRZ HFX HGP HBR i3 i4 z3 z4
          have HWB := hid fun W : World => wholeP_any (a2 + 24) W
          have HAE := hid fun W : World => addP_any (whF (a2 + 24)) x (HLG.out.sum (by omega) (by omega)) W
          have HCL := hid fun W : World => ceilP_any ((whF (a2 + 24)).add x) (by have := (HLG.out.add_bd (a := a2 + 24) (by omega) (by omega)).2; omega) (HLG.out.add_bd (by omega) (by omega)).1.1 W
          rw [HCE.out (a2 + 24)] at HCL
          have hwr : IntKind.i64.wrap (a2 + 24) = a2 + 24 := wrapI (by omega) (by omega)
          generalize (whF (a2 + 24)).add x = y2 at *
          generalize whF (a2 + 24) = fb at *
          have HZA := hid (below_class (wb := w7) (Nat.le_refl w7.heap.size) fun z => HWB.out z.val)
          have HZB := hid (below_class (wb := w7) (Nat.le_refl w7.heap.size) fun z => HAE.out z.val)
          have HZC := hid (below_class (wb := w7) (Nat.le_refl w7.heap.size) fun z => HCL.out z.val)
          clear HWB HAE HCL
          have cz := fun z : BW w7.heap.size w7 => (HF7.out.below z.ok).cells
          have k1 := fun z => (cz z).1.1
          have k2 := fun z => (cz z).1.2
          have k3 := fun z : BW w7.heap.size w7 => (HG7.out.below z.ok).cells.k4
          clear cz
          refine region_below (by kernel_rfl) (by kernel_rfl) (Below.refl w7.heap.size w7) ?_
          repeat (go_big_quiet_step (first | (go_at_call 37; with_reducible exact (HZA.out _)) | (go_at_call 38; with_reducible exact (HZB.out _)) | (go_at_call 59; with_reducible exact (HZC.out _))))
          refine wpQuiet_nil ?_
          intro _ hw'
          obtain ⟨y7, rfl⟩ := hw'
          have hgc := (HG7.out.below y7.ok).cells
          have i0 := hgc.k0; have i1 := hgc.k1; have i2 := hgc.k2; have i3 := hgc.k3; have i4 := hgc.k4
          have HB8 := hid (HB7.out.trans (y7.ok.mono HB7.out.size))
          have HO8 := hid fun (X : Obj) => own_keep hO.out (HB8.out.alloc HB8.out.size X)
          have HBB := hid fun (X : Obj) => bnext0 hB.out (HB8.out.alloc HB8.out.size X)
          have HZ8 := hid (show w.heap.size + 1 ≤ y7.val.heap.size by have := HZ1.out; have := hB.out.size; have := HB8.out.size; omega)
          clear k1 k2 k3 hgc HZA HZB HZC HG7 HF7 hwr
          go_wp2_with (first | (at_builtin; go_loud (refine app_elemF rfl (.tmp 57) (.tmp 59) Tryz.underGps Tryz.infoGp rfl (by decide) (by decide) rfl (B0 + 1) _ j (flatG GJ) rfl (HO8.out _) ⟨y7.val.heap.size, 0, none⟩ [.int .i64 k, .int .i64 s.n, .int .i64 s.d, .int .i64 l2, .int .i64 a2] rfl rfl (fun q u h => by rw [Addr.add_lit]; exact cell_here rfl (by simpa using h)) (fun u hu => by simp at hu; rcases hu with rfl | rfl | rfl | rfl | rfl <;> rfl) (by omega) (by have h1 := HZ8.out; have h2 := HB0.out; simp; omega) ?_); intro v5 w9 ho9 hg9 hf9; have HO9 := hid (show w9.ownsRow (B0 + 1) 103 5 v5 (j + 1) (flatG (grpJ ss l rows len (j + 1))) from by rw [HGJ.out, flatG_app, flatG_one]; exact ho9); have HX9 := hid (show Below w1.heap.size w1 w9 from below_app (B' := B0 + 1) (HBB.out _) (HO8.out _) hg9 (by have := HZ1.out; have := HB0.out; omega) (by have := HZ1.out; have := HZ8.out; simp; omega)); obtain ⟨s0, s1, s2, s3⟩ := HC.out w9 HX9.out; clear ho9 hg9 hf9 i0 i1 i2 i3 i4) | (go_at_call 56; refine (HA3.out w9 HX9.out).mono ?_; rintro e w10 ⟨rfl, hb10⟩; have HO10 := hid (own_keep HO9.out hb10); have HX10 := hid (bnext0 HX9.out hb10); clear hb10 s0 s1 s2 s3))
          go_roundw
          case rel => exact ⟨j + 1, by omega, by rw [HPK.out], by rw [HSJ.out]; show _ = Value.int .i64 l2; rw [Hq1.out], by rw [HSJ.out]; rfl, HO10, HX10⟩
          case measure => simp [intOf]; omega
    · obtain rfl : j = m := by omega
      rw [HPE.out]
      have g0 : decide ((n : Int) < (n : Int)) = false := by simp
      have HOE := hid (show wr.ownsRow (B0 + 1) 103 5 u5 j (flatG GP) from by have h := hO.out; rw [HGE.out.1] at h; exact h)
      clear hO
      go_wp2_with fail
      go_ret
      exact ⟨u5, rfl, own_down HOE.out (by have := HB0.out; omega), HB1.out.trans (hB.out.mono HB1.out.size)⟩
end Go.Proofs.YtimblabaeclhpaaGreat
