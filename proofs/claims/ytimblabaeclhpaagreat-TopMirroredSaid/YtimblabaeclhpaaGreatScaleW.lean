/- WALK: the scale of a group. -/
import Derived.Test.YtimblabaeclhpaaGreatPutL
import Derived.Test.YtimblabaeclhpaaGreatItL
import Derived.Test.YtimblabaeclhpaaGreatGen
namespace Go.Proofs.YtimblabaeclhpaaGreat
open Go.RowKit
/-- A fraction in a box. -/
def FrB (W : World) (b : Nat) (f : Fr) : Prop := W.heap[b]? = some (.cells #[.int .i64 f.n, .int .i64 f.d] 42 (0, 0))
theorem FrB.cells {W : World} {b : Nat} {f : Fr} (h : FrB W b f) : (W.cell? ⟨b, 0, none⟩ = some (.int .i64 f.n) ∧ W.cell? ⟨b, 1, none⟩ = some (.int .i64 f.d)) ∧ (W.frozen? ⟨b, 0, none⟩ = false ∧ W.frozen? ⟨b, 1, none⟩ = false) ∧ b < W.heap.size := res_two (Below.refl _ _) h
theorem FrB.below {W W' : World} {b : Nat} {f : Fr} (h : FrB W b f) (hb : Below W.heap.size W W') : FrB W' b f := (hb.block b (lt_of_block h)).trans h
theorem FrB.set {W : World} {b : Nat} {f g : Fr} (h : FrB W b f) : FrB ((W.setCell ⟨b, 0, none⟩ (.int .i64 g.n)).setCell ⟨b, 1, none⟩ (.int .i64 g.d)) b g := by
  unfold FrB at h ⊢
  simp [World.setCell, h, Array.getElem?_modify] <;> rfl
theorem FrB.new {W : World} {n : Nat} {f : Fr} (hn : n = W.heap.size) : FrB (W.alloc (.cells #[.int .i64 f.n, .int .i64 f.d] 42)) n f := nw_blk hn
theorem sum_sc {s : Fr} (hs : ScOk s) {h : Int} (h0 : 4 ≤ h) (h1 : h ≤ 26400) : SumOk s (frR 48 h) := by
  have a1 := hs.n0; have a2 := hs.nd; have a3 := hs.d1
  have b1 := frR_pos (n := 48) (d := h) (by omega)
  have b2 := frR_le (n := 48) (d := h) (by omega)
  have b3 := frR_abs (n := 48) (d := h) (by omega)
  exact ⟨by omega, b1, by omega, by omega, by omega, by omega⟩
set_option maxRecDepth 100000 in
set_option maxHeartbeats 4000000 in
theorem scale_any (P : Int) (ss : List Sg) (l : List Nd) (rows : Bool) (hp : Pln P ss l) (hsl : ss.length ≤ 1000000) (hsv : ∀ s ∈ ss, s.vals.length ≤ 1000000 ∧ s.vals.length ≤ s.vc) (i : Nat) (hi : i < l.length) (A A2 : Option Addr) (c c2 : Nat) (w : World) (rs : Sgs w w.heap.size A ss) (rn : Nds w w.heap.size A2 l) :
    Calls Tryz.prog 57 #[.agg #[.int .i64 P, .slice A ss.length c, .slice A2 l.length c2, .bool rows], .int .i64 i] w fun e w' => e = .returned (.agg #[.int .i64 (gS ss l rows i).n, .int .i64 (gS ss l rows i).d]) ∧ Below w.heap.size w w' := by
  have hz := gZ_ok (rows := rows) hp hi
  have hn := hp.len
  have hgs : gS ss l rows i = scl rows (nd l i) (gZ ss l rows i) := rfl
  have hfs := fun (W : World) (B : Nat) (v : Value) (h : FigAt ss l rows (newB B W) W l.length i v) => (show SzC W v (gZ ss l rows i) from fig_size hp (fun b h => h.2) l.length i hi (by omega) v h)
  have hfg := figure_any P ss l rows hp hsl hsv l.length i hi (by omega) A A2 c c2
  obtain ⟨b, o, rfl, hbB, hc⟩ := rn.at (by omega)
  have hx := (hc i hi).kind
  rw [← nd_at hi] at hx
  obtain ⟨w1, hw1⟩ : ∃ w1, w1 = (w.alloc (.cells #[.int .i64 P, .slice A ss.length c, .slice (some ⟨b, o, none⟩) l.length c2, .bool rows] 69)).alloc (.cells #[.int .i64 0, .int .i64 0] 42) := ⟨_, rfl⟩
  have hb1 : Below w.heap.size w w1 := by rw [hw1]; exact ((Below.refl _ _).alloc (Nat.le_refl _) _).alloc (by simp) _
  have hz1 : w1.heap.size = w.heap.size + 2 := by rw [hw1]; simp
  have c0 : w1.cell? ⟨w.heap.size, 0, none⟩ = some (.int .i64 P) := by rw [hw1]; exact cell_old (cell_here rfl rfl)
  have c1 : w1.cell? ⟨w.heap.size, 1, none⟩ = some (.slice A ss.length c) := by rw [hw1]; exact cell_old (cell_here rfl rfl)
  have c2' : w1.cell? ⟨w.heap.size, 2, none⟩ = some (.slice (some ⟨b, o, none⟩) l.length c2) := by rw [hw1]; exact cell_old (cell_here rfl rfl)
  have c3 : w1.cell? ⟨w.heap.size, 3, none⟩ = some (.bool rows) := by rw [hw1]; exact cell_old (cell_here rfl rfl)
  have hr1 : FrB w1 (w.heap.size + 1) ⟨0, 0⟩ := by rw [hw1]; exact FrB.new (f := ⟨0, 0⟩) (by simp)
  have HC := hid fun (W : World) (h : Below w1.heap.size w1 W) => (show ((W.cell? ⟨w.heap.size, 1, none⟩ = some (.slice A ss.length c) ∧ W.cell? ⟨w.heap.size, 2, none⟩ = some (.slice (some ⟨b, o, none⟩) l.length c2) ∧ W.cell? ⟨w.heap.size, 3, none⟩ = some (.bool rows)) ∧ W.cell? ⟨b, o + i * 8, none⟩ = some (.int .i64 (nd l i).kind)) ∧ FrB W (w.heap.size + 1) ⟨0, 0⟩ from
    ⟨⟨⟨(h.cell (by show w.heap.size < _; omega)).trans c1, (h.cell (by show w.heap.size < _; omega)).trans c2', (h.cell (by show w.heap.size < _; omega)).trans c3⟩, (h.cell (p := ⟨b, o + i * 8, none⟩) (by show b < _; omega)).trans ((hb1.cell (p := ⟨b, o + i * 8, none⟩) hbB).trans hx)⟩, hr1.below h⟩)
  have HFG := hid ((hfg w1 ((rs.below hb1).more hb1.size) (Reads.more (rn.below hb1) hb1.size)).mono fun (e : Ending) (w' : World) ⟨v, e1, e2, e3⟩ => (show ∃ v : Value, e = Ending.returned v ∧ SzC w' v (gZ ss l rows i) ∧ Below w1.heap.size w1 w' from ⟨v, e1, hfs w' _ v e2, e3⟩))
  rw [hgs]
  generalize gZ ss l rows i = z at hz HFG ⊢
  obtain ⟨z1, z2⟩ := z
  have a1 := hz.p1; have a2 := hz.p2; have a3 := hz.b1; have a4 := hz.b2; have m1 := hz.m1; have m2 := hz.m2
  simp only [] at a1 a2 a3 a4 m1 m2
  have HW := hid (fun W : World => wholeP_any 1 W)
  have HF2 := hid (fun W : World => fracP_any 48 z2 (by omega) (by omega) (by omega) (by omega) W)
  have HL2 := hid (fun W : World => leastP_any (whF 1) (frR 48 z2) (sum_sc sc_one a2 (by omega)) W)
  have HF1 := hid (fun W : World => fracP_any 48 z1 (by omega) (by omega) (by omega) (by omega) W)
  obtain ⟨s1, hs1⟩ : ∃ s1, s1 = if rows = true ∨ (nd l i).kind ≠ 5 then minF (whF 1) (frR 48 z2) else whF 1 := ⟨_, rfl⟩
  have hsc : scl rows (nd l i) (z1, z2) = if rows = false ∨ (nd l i).kind ≠ 5 then minF s1 (frR 48 z1) else s1 := by rw [hs1]; rfl
  have hok1 : ScOk s1 := by
    rw [hs1]
    split
    · exact sc_min sc_one a2 m2 (by omega)
    · exact sc_one
  have HL1 := hid (fun W : World => leastP_any s1 (frR 48 z1) (sum_sc hok1 a1 (by omega)) W)
  rw [hsc]
  have Hs1 := hid hs1
  clear hs1 hsc hok1
  generalize minF (whF 1) (frR 48 z2) = q2 at HL2 Hs1
  generalize frR 48 z2 = f2 at HF2 HL2
  generalize minF s1 (frR 48 z1) = q1 at HL1 ⊢
  generalize frR 48 z1 = f1 at HF1 HL1
  generalize whF 1 = f0 at HW HL2 Hs1
  generalize (nd l i).kind = kk at HC Hs1 ⊢
  clear hz hn hgs hfs hfg rs rn hx hc hr1 m1 m2 hp hsv hsl
  generalize l.length = n at *
  generalize ss.length = N at *
  obtain ⟨s2, hs2⟩ : ∃ s2, s2 = if rows = false ∨ kk ≠ 5 then q1 else s1 := ⟨_, rfl⟩
  rw [← hs2]
  have Hs2 := hid hs2
  clear hs2
  have HW1 := hid hw1; have HB1 := hid hb1; have HZ1 := hid hz1
  have q0 : (i : Int) < (n : Int) := by omega
  clear hw1 hb1 hz1
  go_enter Tryz.func57, Tryz.ntmps57
  go_upto_region 1 with (fail)
  rw [← HW1.out]
  clear HW1
  obtain ⟨B0, hB0⟩ : ∃ B0, B0 = w.heap.size := ⟨_, rfl⟩
  obtain ⟨B1, hB1⟩ : ∃ B1, B1 = B0 + 1 := ⟨_, rfl⟩
  rw [← hB0] at HC c0 c1 c2' c3 HZ1
  rw [← hB1] at HC
  rw [← hB0, ← hB1]
  have HB0 := hid hB0; have HBB := hid hB1
  clear hB0 hB1
  go_upto_region 3 with (first | (go_at_call 41; refine HFG.out.mono ?_; rintro e w2 ⟨v, rfl, hsz, hb2⟩; obtain ⟨T, r, K, rfl, hm, hf, hcc⟩ := hsz; have HCC := hid hcc; have hm2 := hm 295; have HB2 := hid hb2; clear hb2 hcc hm c0 c1 c2' c3) | (refine (HCC.out _ (Below.refl _ _)).mono ?_; rintro e w3 ⟨rfl, hb3⟩; have HB3 := hid (bnext0 HB2.out hb3); clear hb3) | (go_at_call 37; refine (HW.out _).mono ?_; rintro e w4 ⟨rfl, hb4⟩; have HB4 := hid (bnext0 HB3.out hb4); clear hb4))
  obtain ⟨w5, hw5⟩ : ∃ w5, w5 = w4.alloc (.cells #[.int .i64 f0.n, .int .i64 f0.d] 42) := ⟨_, rfl⟩
  obtain ⟨b7, hb7⟩ : ∃ b7, b7 = w4.heap.size := ⟨_, rfl⟩
  have hf5 : FrB w5 b7 f0 := by rw [hw5, hb7]; exact FrB.new rfl
  have hb5 : Below w1.heap.size w1 w5 := by rw [hw5]; exact HB4.out.alloc HB4.out.size _
  have h57 : w1.heap.size ≤ b7 := by rw [hb7]; exact HB4.out.size
  rw [← hw5, ← hb7]
  have HF5 := hid hf5; have HB5 := hid hb5
  clear hw5 hb7 hf5 hb5 hm2 hf HFG HCC
  by_cases h5 : kk = 5
  · have e5 : (kk != 5) = false := by simp [h5]
    cases rows with
    | true =>
      have HX1 := hid (Hs1.out.trans (if_pos (.inl rfl)))
      have HX2 := hid (Hs2.out.trans (if_neg (by simp [h5])))
      clear h5 Hs1 Hs2
      obtain ⟨⟨⟨p1, p2, p3⟩, p4⟩, _⟩ := HC.out w5 HB5.out
      go_upto_region 4 with (fail)
      have HZA := hid (below_class (wb := w5) (Nat.le_refl w5.heap.size) fun z => HF2.out z.val)
      have HZB := hid (below_class (wb := w5) (Nat.le_refl w5.heap.size) fun z => HL2.out z.val)
      have cz : ∀ z : BW w5.heap.size w5, FrB z.val b7 f0 := fun z => HF5.out.below z.ok
      have HCZ := hid cz
      have k1 := fun z => (cz z).cells.1.1
      have k2 := fun z => (cz z).cells.1.2
      clear cz
      refine region_belowT 4 (by kernel_rfl) (by kernel_rfl) (Below.refl w5.heap.size w5) ?_
      simp only [List.take_succ_cons, List.take_zero, List.drop_succ_cons, List.drop_zero]
      repeat (go_big_quiet_step (first | (go_at_call 60; go_must (exact (HZA.out _))) | (go_at_call 74; go_must (exact (HZB.out _)))))
      refine wpQuiet_nil ?_
      intro _ hw'
      obtain ⟨z, rfl⟩ := hw'
      obtain ⟨⟨j1, j2⟩, ⟨j3, j4⟩, j5⟩ := (HCZ.out z).cells
      have HZ := hid (HB5.out.trans (z.ok.mono HB5.out.size))
      clear k1 k2 p1 p2 p3 p4
      go_upto_region 5 with (fail)
      obtain ⟨w6, hw6⟩ : ∃ w6, w6 = (z.val.setCell ⟨b7, 0, none⟩ (.int .i64 q2.n)).setCell ⟨b7, 1, none⟩ (.int .i64 q2.d) := ⟨_, rfl⟩
      have HF6 := hid (show FrB w6 b7 q2 by rw [hw6]; exact (HCZ.out z).set)
      have HB6 := hid (show Below w1.heap.size w1 w6 by rw [hw6]; exact (HZ.out.setCell h57 _).setCell h57 _)
      rw [← hw6]
      clear hw6 HCZ HZA HZB HZ j1 j2 j3 j4 j5
      obtain ⟨⟨⟨p1, p2, p3⟩, p4⟩, _⟩ := HC.out w6 HB6.out
      go_upto_region 7 with (fail)
      clear p1 p2 p3 p4
      replace HX2 := hid (HX2.out.trans HX1.out)
      obtain ⟨⟨⟨p1, p2, p3⟩, p4⟩, hr⟩ := HC.out w6 HB6.out
      obtain ⟨⟨j1, j2⟩, ⟨j3, j4⟩, j5⟩ := hr.cells
      obtain ⟨⟨k1, k2⟩, _, _⟩ := HF6.out.cells
      clear hr
      go_wp2_with fail
      have t1 := World.cell?_setCell_same _ _ (.int .i64 q2.n) j1
      exact bodyPost_ret (v := .agg #[.int .i64 q2.n, .int .i64 q2.d]) (by simp [results, Tryz.results57, go_sem, j2, t1]) rfl ⟨by rw [HX2.out], (HB1.out.trans (HB6.out.mono HB1.out.size)).setCell (by have := HB0.out; have := HBB.out; show _ ≤ B1; omega) _ |>.setCell (by have := HB0.out; have := HBB.out; show _ ≤ B1; omega) _⟩
    | false =>
      have HX1 := hid (Hs1.out.trans (if_neg (by simp [h5])))
      have HX2 := hid (Hs2.out.trans (if_pos (.inl rfl)))
      clear h5 Hs1 Hs2
      obtain ⟨⟨⟨p1, p2, p3⟩, p4⟩, _⟩ := HC.out w5 HB5.out
      go_upto_region 5 with (fail)
      clear p1 p2 p3 p4
      rw [HX1.out] at HL1
      obtain ⟨⟨⟨p1, p2, p3⟩, p4⟩, _⟩ := HC.out w5 HB5.out
      go_upto_region 6 with (fail)
      have HZA := hid (below_class (wb := w5) (Nat.le_refl w5.heap.size) fun z => HF1.out z.val)
      have HZB := hid (below_class (wb := w5) (Nat.le_refl w5.heap.size) fun z => HL1.out z.val)
      have cz : ∀ z : BW w5.heap.size w5, FrB z.val b7 f0 := fun z => HF5.out.below z.ok
      have HCZ := hid cz
      have k1 := fun z => (cz z).cells.1.1
      have k2 := fun z => (cz z).cells.1.2
      clear cz
      refine region_belowT 4 (by kernel_rfl) (by kernel_rfl) (Below.refl w5.heap.size w5) ?_
      simp only [List.take_succ_cons, List.take_zero, List.drop_succ_cons, List.drop_zero]
      repeat (go_big_quiet_step (first | (go_at_call 60; go_must (exact (HZA.out _))) | (go_at_call 74; go_must (exact (HZB.out _)))))
      refine wpQuiet_nil ?_
      intro _ hw'
      obtain ⟨z, rfl⟩ := hw'
      obtain ⟨⟨j1, j2⟩, ⟨j3, j4⟩, j5⟩ := (HCZ.out z).cells
      have HZ := hid (HB5.out.trans (z.ok.mono HB5.out.size))
      clear k1 k2 p1 p2 p3 p4
      go_upto_region 7 with (fail)
      obtain ⟨w6, hw6⟩ : ∃ w6, w6 = (z.val.setCell ⟨b7, 0, none⟩ (.int .i64 q1.n)).setCell ⟨b7, 1, none⟩ (.int .i64 q1.d) := ⟨_, rfl⟩
      have HF6 := hid (show FrB w6 b7 q1 by rw [hw6]; exact (HCZ.out z).set)
      have HB6 := hid (show Below w1.heap.size w1 w6 by rw [hw6]; exact (HZ.out.setCell h57 _).setCell h57 _)
      rw [← hw6]
      clear hw6 HCZ HZA HZB HZ j1 j2 j3 j4 j5
      obtain ⟨⟨⟨p1, p2, p3⟩, p4⟩, hr⟩ := HC.out w6 HB6.out
      obtain ⟨⟨j1, j2⟩, ⟨j3, j4⟩, j5⟩ := hr.cells
      obtain ⟨⟨k1, k2⟩, _, _⟩ := HF6.out.cells
      clear hr
      go_wp2_with fail
      have t1 := World.cell?_setCell_same _ _ (.int .i64 q1.n) j1
      exact bodyPost_ret (v := .agg #[.int .i64 q1.n, .int .i64 q1.d]) (by simp [results, Tryz.results57, go_sem, j2, t1]) rfl ⟨by rw [HX2.out], (HB1.out.trans (HB6.out.mono HB1.out.size)).setCell (by have := HB0.out; have := HBB.out; show _ ≤ B1; omega) _ |>.setCell (by have := HB0.out; have := HBB.out; show _ ≤ B1; omega) _⟩
  · have e5 : (kk != 5) = true := by simpa using h5
    cases rows with
    | true =>
      have HX1 := hid (Hs1.out.trans (if_pos (.inl rfl)))
      have HX2 := hid (Hs2.out.trans (if_pos (.inr h5)))
      clear h5 Hs1 Hs2
      obtain ⟨⟨⟨p1, p2, p3⟩, p4⟩, _⟩ := HC.out w5 HB5.out
      go_upto_region 4 with (fail)
      have HZA := hid (below_class (wb := w5) (Nat.le_refl w5.heap.size) fun z => HF2.out z.val)
      have HZB := hid (below_class (wb := w5) (Nat.le_refl w5.heap.size) fun z => HL2.out z.val)
      have cz : ∀ z : BW w5.heap.size w5, FrB z.val b7 f0 := fun z => HF5.out.below z.ok
      have HCZ := hid cz
      have k1 := fun z => (cz z).cells.1.1
      have k2 := fun z => (cz z).cells.1.2
      clear cz
      refine region_belowT 4 (by kernel_rfl) (by kernel_rfl) (Below.refl w5.heap.size w5) ?_
      simp only [List.take_succ_cons, List.take_zero, List.drop_succ_cons, List.drop_zero]
      repeat (go_big_quiet_step (first | (go_at_call 60; go_must (exact (HZA.out _))) | (go_at_call 74; go_must (exact (HZB.out _)))))
      refine wpQuiet_nil ?_
      intro _ hw'
      obtain ⟨z, rfl⟩ := hw'
      obtain ⟨⟨j1, j2⟩, ⟨j3, j4⟩, j5⟩ := (HCZ.out z).cells
      have HZ := hid (HB5.out.trans (z.ok.mono HB5.out.size))
      clear k1 k2 p1 p2 p3 p4
      go_upto_region 5 with (fail)
      obtain ⟨w6, hw6⟩ : ∃ w6, w6 = (z.val.setCell ⟨b7, 0, none⟩ (.int .i64 q2.n)).setCell ⟨b7, 1, none⟩ (.int .i64 q2.d) := ⟨_, rfl⟩
      have HF6 := hid (show FrB w6 b7 q2 by rw [hw6]; exact (HCZ.out z).set)
      have HB6 := hid (show Below w1.heap.size w1 w6 by rw [hw6]; exact (HZ.out.setCell h57 _).setCell h57 _)
      rw [← hw6]
      clear hw6 HCZ HZA HZB HZ j1 j2 j3 j4 j5
      rw [HX1.out] at HL1
      obtain ⟨⟨⟨p1, p2, p3⟩, p4⟩, _⟩ := HC.out w6 HB6.out
      go_upto_region 6 with (fail)
      have HZA := hid (below_class (wb := w6) (Nat.le_refl w6.heap.size) fun z => HF1.out z.val)
      have HZB := hid (below_class (wb := w6) (Nat.le_refl w6.heap.size) fun z => HL1.out z.val)
      have cz : ∀ z : BW w6.heap.size w6, FrB z.val b7 q2 := fun z => HF6.out.below z.ok
      have HCZ := hid cz
      have k1 := fun z => (cz z).cells.1.1
      have k2 := fun z => (cz z).cells.1.2
      clear cz
      refine region_belowT 4 (by kernel_rfl) (by kernel_rfl) (Below.refl w6.heap.size w6) ?_
      simp only [List.take_succ_cons, List.take_zero, List.drop_succ_cons, List.drop_zero]
      repeat (go_big_quiet_step (first | (go_at_call 60; go_must (exact (HZA.out _))) | (go_at_call 74; go_must (exact (HZB.out _)))))
      refine wpQuiet_nil ?_
      intro _ hw'
      obtain ⟨z, rfl⟩ := hw'
      obtain ⟨⟨j1, j2⟩, ⟨j3, j4⟩, j5⟩ := (HCZ.out z).cells
      have HZ := hid (HB6.out.trans (z.ok.mono HB6.out.size))
      clear k1 k2 p1 p2 p3 p4
      go_upto_region 7 with (fail)
      obtain ⟨w7, hw7⟩ : ∃ w7, w7 = (z.val.setCell ⟨b7, 0, none⟩ (.int .i64 q1.n)).setCell ⟨b7, 1, none⟩ (.int .i64 q1.d) := ⟨_, rfl⟩
      have HF7 := hid (show FrB w7 b7 q1 by rw [hw7]; exact (HCZ.out z).set)
      have HB7 := hid (show Below w1.heap.size w1 w7 by rw [hw7]; exact (HZ.out.setCell h57 _).setCell h57 _)
      rw [← hw7]
      clear hw7 HCZ HZA HZB HZ j1 j2 j3 j4 j5
      obtain ⟨⟨⟨p1, p2, p3⟩, p4⟩, hr⟩ := HC.out w7 HB7.out
      obtain ⟨⟨j1, j2⟩, ⟨j3, j4⟩, j5⟩ := hr.cells
      obtain ⟨⟨k1, k2⟩, _, _⟩ := HF7.out.cells
      clear hr
      go_wp2_with fail
      have t1 := World.cell?_setCell_same _ _ (.int .i64 q1.n) j1
      exact bodyPost_ret (v := .agg #[.int .i64 q1.n, .int .i64 q1.d]) (by simp [results, Tryz.results57, go_sem, j2, t1]) rfl ⟨by rw [HX2.out], (HB1.out.trans (HB7.out.mono HB1.out.size)).setCell (by have := HB0.out; have := HBB.out; show _ ≤ B1; omega) _ |>.setCell (by have := HB0.out; have := HBB.out; show _ ≤ B1; omega) _⟩
    | false =>
      have HX1 := hid (Hs1.out.trans (if_pos (.inr h5)))
      have HX2 := hid (Hs2.out.trans (if_pos (.inl rfl)))
      clear h5 Hs1 Hs2
      obtain ⟨⟨⟨p1, p2, p3⟩, p4⟩, _⟩ := HC.out w5 HB5.out
      go_upto_region 4 with (fail)
      have HZA := hid (below_class (wb := w5) (Nat.le_refl w5.heap.size) fun z => HF2.out z.val)
      have HZB := hid (below_class (wb := w5) (Nat.le_refl w5.heap.size) fun z => HL2.out z.val)
      have cz : ∀ z : BW w5.heap.size w5, FrB z.val b7 f0 := fun z => HF5.out.below z.ok
      have HCZ := hid cz
      have k1 := fun z => (cz z).cells.1.1
      have k2 := fun z => (cz z).cells.1.2
      clear cz
      refine region_belowT 4 (by kernel_rfl) (by kernel_rfl) (Below.refl w5.heap.size w5) ?_
      simp only [List.take_succ_cons, List.take_zero, List.drop_succ_cons, List.drop_zero]
      repeat (go_big_quiet_step (first | (go_at_call 60; go_must (exact (HZA.out _))) | (go_at_call 74; go_must (exact (HZB.out _)))))
      refine wpQuiet_nil ?_
      intro _ hw'
      obtain ⟨z, rfl⟩ := hw'
      obtain ⟨⟨j1, j2⟩, ⟨j3, j4⟩, j5⟩ := (HCZ.out z).cells
      have HZ := hid (HB5.out.trans (z.ok.mono HB5.out.size))
      clear k1 k2 p1 p2 p3 p4
      go_upto_region 5 with (fail)
      obtain ⟨w6, hw6⟩ : ∃ w6, w6 = (z.val.setCell ⟨b7, 0, none⟩ (.int .i64 q2.n)).setCell ⟨b7, 1, none⟩ (.int .i64 q2.d) := ⟨_, rfl⟩
      have HF6 := hid (show FrB w6 b7 q2 by rw [hw6]; exact (HCZ.out z).set)
      have HB6 := hid (show Below w1.heap.size w1 w6 by rw [hw6]; exact (HZ.out.setCell h57 _).setCell h57 _)
      rw [← hw6]
      clear hw6 HCZ HZA HZB HZ j1 j2 j3 j4 j5
      rw [HX1.out] at HL1
      obtain ⟨⟨⟨p1, p2, p3⟩, p4⟩, _⟩ := HC.out w6 HB6.out
      go_upto_region 6 with (fail)
      have HZA := hid (below_class (wb := w6) (Nat.le_refl w6.heap.size) fun z => HF1.out z.val)
      have HZB := hid (below_class (wb := w6) (Nat.le_refl w6.heap.size) fun z => HL1.out z.val)
      have cz : ∀ z : BW w6.heap.size w6, FrB z.val b7 q2 := fun z => HF6.out.below z.ok
      have HCZ := hid cz
      have k1 := fun z => (cz z).cells.1.1
      have k2 := fun z => (cz z).cells.1.2
      clear cz
      refine region_belowT 4 (by kernel_rfl) (by kernel_rfl) (Below.refl w6.heap.size w6) ?_
      simp only [List.take_succ_cons, List.take_zero, List.drop_succ_cons, List.drop_zero]
      repeat (go_big_quiet_step (first | (go_at_call 60; go_must (exact (HZA.out _))) | (go_at_call 74; go_must (exact (HZB.out _)))))
      refine wpQuiet_nil ?_
      intro _ hw'
      obtain ⟨z, rfl⟩ := hw'
      obtain ⟨⟨j1, j2⟩, ⟨j3, j4⟩, j5⟩ := (HCZ.out z).cells
      have HZ := hid (HB6.out.trans (z.ok.mono HB6.out.size))
      clear k1 k2 p1 p2 p3 p4
      go_upto_region 7 with (fail)
      obtain ⟨w7, hw7⟩ : ∃ w7, w7 = (z.val.setCell ⟨b7, 0, none⟩ (.int .i64 q1.n)).setCell ⟨b7, 1, none⟩ (.int .i64 q1.d) := ⟨_, rfl⟩
      have HF7 := hid (show FrB w7 b7 q1 by rw [hw7]; exact (HCZ.out z).set)
      have HB7 := hid (show Below w1.heap.size w1 w7 by rw [hw7]; exact (HZ.out.setCell h57 _).setCell h57 _)
      rw [← hw7]
      clear hw7 HCZ HZA HZB HZ j1 j2 j3 j4 j5
      obtain ⟨⟨⟨p1, p2, p3⟩, p4⟩, hr⟩ := HC.out w7 HB7.out
      obtain ⟨⟨j1, j2⟩, ⟨j3, j4⟩, j5⟩ := hr.cells
      obtain ⟨⟨k1, k2⟩, _, _⟩ := HF7.out.cells
      clear hr
      go_wp2_with fail
      have t1 := World.cell?_setCell_same _ _ (.int .i64 q1.n) j1
      exact bodyPost_ret (v := .agg #[.int .i64 q1.n, .int .i64 q1.d]) (by simp [results, Tryz.results57, go_sem, j2, t1]) rfl ⟨by rw [HX2.out], (HB1.out.trans (HB7.out.mono HB1.out.size)).setCell (by have := HB0.out; have := HBB.out; show _ ≤ B1; omega) _ |>.setCell (by have := HB0.out; have := HBB.out; show _ ≤ B1; omega) _⟩
end Go.Proofs.YtimblabaeclhpaaGreat

/- WALK: the extents of a group along and across its line (printed by gen_alongw.py). -/
namespace Go.Proofs.YtimblabaeclhpaaGreat
open Go.RowKit
theorem FrB.far {W : World} {b b' k : Nat} {f : Fr} {v : Value} (h : FrB W b f) (hne : b' ≠ b) : FrB (W.setCell ⟨b', k, none⟩ v) b f := by
  unfold FrB at h ⊢
  simp [World.setCell, Array.getElem?_modify, hne, h]
/-- The extent of a group across its line. -/
noncomputable def gX (ss : List Sg) (l : List Nd) (rows : Bool) (i : Nat) : Fr := frR (gCr ss l rows i * (gS ss l rows i).n) (gS ss l rows i).d
set_option maxRecDepth 100000 in
set_option maxHeartbeats 4000000 in
theorem along_any (P : Int) (ss : List Sg) (l : List Nd) (rows : Bool) (hp : Pln P ss l) (hsl : ss.length ≤ 1000000) (hsv : ∀ s ∈ ss, s.vals.length ≤ 1000000 ∧ s.vals.length ≤ s.vc) (i : Nat) (hi : i < l.length) (ln at_ : Int) (A A2 : Option Addr) (c c2 : Nat) (w : World) (rs : Sgs w w.heap.size A ss) (rn : Nds w w.heap.size A2 l) :
    Calls Tryz.prog 36 #[.agg #[.int .i64 P, .slice A ss.length c, .slice A2 l.length c2, .bool rows], .agg #[.int .i64 i, .int .i64 (gS ss l rows i).n, .int .i64 (gS ss l rows i).d, .int .i64 ln, .int .i64 at_]] w fun e w' => e = .returned (.tuple #[.agg #[.int .i64 (gL ss l rows i).n, .int .i64 (gL ss l rows i).d], .agg #[.int .i64 (gX ss l rows i).n, .int .i64 (gX ss l rows i).d]]) ∧ Below w.heap.size w w' := by
  have hz := gZ_ok (rows := rows) hp hi
  have hsc := gS_ok (rows := rows) hp hi
  have hn := hp.len
  have hfs := fun (W : World) (B : Nat) (v : Value) (h : FigAt ss l rows (newB B W) W l.length i v) => (show SzC W v (gZ ss l rows i) from fig_size hp (fun b h => h.2) l.length i hi (by omega) v h)
  have hfg := figure_any P ss l rows hp hsl hsv l.length i hi (by omega) A A2 c c2
  obtain ⟨w1, hw1⟩ : ∃ w1, w1 = (((w.alloc (.cells #[.int .i64 P, .slice A ss.length c, .slice A2 l.length c2, .bool rows] 69)).alloc (.cells #[.int .i64 i, .int .i64 (gS ss l rows i).n, .int .i64 (gS ss l rows i).d, .int .i64 ln, .int .i64 at_] 103)).alloc (.cells #[.int .i64 0, .int .i64 0] 42)).alloc (.cells #[.int .i64 0, .int .i64 0] 42) := ⟨_, rfl⟩
  have hb1 : Below w.heap.size w w1 := by rw [hw1]; exact ((((Below.refl _ _).alloc (Nat.le_refl _) _).alloc (by simp) _).alloc (by simp; omega) _).alloc (by simp; omega) _
  have hz1 : w1.heap.size = w.heap.size + 4 := by rw [hw1]; simp
  have g0 : w1.heap[w.heap.size]? = some (.cells #[.int .i64 P, .slice A ss.length c, .slice A2 l.length c2, .bool rows] 69 (0, 0)) := by rw [hw1]; exact old_blk (old_blk (old_blk (nw_blk rfl)))
  have g1 : w1.heap[w.heap.size + 1]? = some (.cells #[.int .i64 i, .int .i64 (gS ss l rows i).n, .int .i64 (gS ss l rows i).d, .int .i64 ln, .int .i64 at_] 103 (0, 0)) := by rw [hw1]; exact old_blk (old_blk (nw_blk (by simp)))
  have g2 : FrB w1 (w.heap.size + 2) ⟨0, 0⟩ := by rw [hw1]; exact old_blk (nw_blk (by simp))
  have g3 : FrB w1 (w.heap.size + 3) ⟨0, 0⟩ := by rw [hw1]; exact nw_blk (by simp)
  have c0 : w1.cell? ⟨w.heap.size, 0, none⟩ = some (.int .i64 P) := by simp [World.cell?, g0]
  have c1 : w1.cell? ⟨w.heap.size, 1, none⟩ = some (.slice A ss.length c) := by simp [World.cell?, g0]
  have c2' : w1.cell? ⟨w.heap.size, 2, none⟩ = some (.slice A2 l.length c2) := by simp [World.cell?, g0]
  have c3 : w1.cell? ⟨w.heap.size, 3, none⟩ = some (.bool rows) := by simp [World.cell?, g0]
  have c4 : w1.cell? ⟨w.heap.size + 1, 0, none⟩ = some (.int .i64 i) := by simp [World.cell?, g1]
  have HC := hid fun (W : World) (h : Below w1.heap.size w1 W) => (show (W.cell? ⟨w.heap.size, 2, none⟩ = some (.slice A2 l.length c2) ∧ W.cell? ⟨w.heap.size, 3, none⟩ = some (.bool rows)) ∧ (W.cell? ⟨w.heap.size + 1, 1, none⟩ = some (.int .i64 (gS ss l rows i).n) ∧ W.cell? ⟨w.heap.size + 1, 2, none⟩ = some (.int .i64 (gS ss l rows i).d)) ∧ FrB W (w.heap.size + 2) ⟨0, 0⟩ ∧ FrB W (w.heap.size + 3) ⟨0, 0⟩ from
    ⟨⟨(h.cell (by show w.heap.size < _; omega)).trans c2', (h.cell (by show w.heap.size < _; omega)).trans c3⟩, ⟨(h.cell (by show w.heap.size + 1 < _; omega)).trans (by simp [World.cell?, g1]), (h.cell (by show w.heap.size + 1 < _; omega)).trans (by simp [World.cell?, g1])⟩, g2.below h, g3.below h⟩)
  have HFG := hid ((hfg w1 ((rs.below hb1).more hb1.size) (Reads.more (rn.below hb1) hb1.size)).mono fun (e : Ending) (w' : World) ⟨v, e1, e2, e3⟩ => (show ∃ v : Value, e = Ending.returned v ∧ SzC w' v (gZ ss l rows i) ∧ Below w1.heap.size w1 w' from ⟨v, e1, hfs w' _ v e2, e3⟩))
  have ha := gAl_ok (rows := rows) hp hi
  have hcr := gCr_ok (rows := rows) hp hi
  have e1 := times_1 hsc (gAl ss l rows i)
  have e2 := times_1 hsc (gCr ss l rows i)
  have b1 := hsc.n0; have b2 := hsc.nd; have b3 := hsc.d1
  have HT1 := hid (fun W : World => timesP_any (gS ss l rows i) (gAl ss l rows i) 1 (by omega) (by omega) (by omega) (by omega) (by omega) (by omega) W)
  have HT2 := hid (fun W : World => timesP_any (gS ss l rows i) (gCr ss l rows i) 1 (by omega) (by omega) (by omega) (by omega) (by omega) (by omega) W)
  rw [e1] at HT1
  rw [e2] at HT2
  have hAl : gAl ss l rows i = if rows then (gZ ss l rows i).1 else (gZ ss l rows i).2 := rfl
  have hCr : gCr ss l rows i = if rows then (gZ ss l rows i).2 else (gZ ss l rows i).1 := rfl
  unfold gX gL
  generalize frR (gAl ss l rows i * (gS ss l rows i).n) (gS ss l rows i).d = fa at HT1 ⊢
  generalize frR (gCr ss l rows i * (gS ss l rows i).n) (gS ss l rows i).d = fc at HT2 ⊢
  generalize gAl ss l rows i = al at HT1 hAl
  generalize gCr ss l rows i = cr at HT2 hCr
  clear hz hn hfs hfg rs rn g0 g1 g2 g3 hp hsv hsl ha hcr e1 e2 hsc b1 b2 b3
  generalize gS ss l rows i = s at *
  generalize gZ ss l rows i = z at *
  obtain ⟨z1, z2⟩ := z
  simp only [] at hAl hCr HFG
  generalize l.length = n at *
  generalize ss.length = N at *
  have HW1 := hid hw1; have HB1 := hid hb1; have HZ1 := hid hz1
  have q0 : (i : Int) < (n : Int) := by omega
  clear hw1 hb1 hz1
  cases rows with
  | true =>
    simp only [if_true] at hAl hCr
    subst hAl hCr
    go_enter Tryz.func36, Tryz.ntmps36
    go_upto_region 1 with (fail)
    rw [← HW1.out]
    clear HW1
    obtain ⟨B0, hB0⟩ : ∃ B0, B0 = w.heap.size := ⟨_, rfl⟩
    obtain ⟨B1, hB1⟩ : ∃ B1, B1 = B0 + 1 := ⟨_, rfl⟩
    obtain ⟨B2, hB2⟩ : ∃ B2, B2 = B0 + 2 := ⟨_, rfl⟩
    obtain ⟨B3, hB3⟩ : ∃ B3, B3 = B0 + 3 := ⟨_, rfl⟩
    have hB2' : B0 + 1 + 1 = B2 := by omega
    have hB3' : B2 + 1 = B3 := by omega
    rw [← hB0] at HC c0 c1 c2' c3 c4 HZ1
    rw [← hB1] at HC c4
    rw [← hB2, ← hB3] at HC
    rw [← hB0]
    try rw [hB2']
    try rw [hB3']
    try rw [← hB1]
    have HB0 := hid hB0; have HBB := hid hB1; have HBC := hid hB2; have HBD := hid hB3
    clear hB0 hB1 hB2 hB3 hB2' hB3'
    go_upto_region 2 with (first | (go_at_call 41; refine HFG.out.mono ?_; rintro e w2 ⟨v, rfl, hsz, hb2⟩; obtain ⟨T, r, K, rfl, hm, hf, hcc⟩ := hsz; have HCC := hid hcc; have hm2 := hm 295; have HB2 := hid hb2; clear hb2 hcc hm c0 c1 c2' c3 c4) | (refine (HCC.out _ (Below.refl _ _)).mono ?_; rintro e w3 ⟨rfl, hb3⟩; have HB3 := hid (bnext0 HB2.out hb3); clear hb3))
    obtain ⟨⟨p1, p2⟩, ⟨p3, p4⟩, p5, p6⟩ := HC.out w3 HB3.out
    have HP5 := hid p5; have HP6 := hid p6
    clear hm2 hf HFG HCC p5 p6
    go_upto_region 4 with (fail)
    have HZA := hid (below_class (wb := w3) (Nat.le_refl w3.heap.size) fun z => HT1.out z.val)
    have HZB := hid (below_class (wb := w3) (Nat.le_refl w3.heap.size) fun z => HT2.out z.val)
    have cz := fun z : BW w3.heap.size w3 => HC.out z.val (HB3.out.trans (z.ok.mono HB3.out.size))
    have k1 := fun z => (cz z).2.1.1
    have k2 := fun z => (cz z).2.1.2
    have HCZ := hid cz
    clear cz p1 p2 p3 p4
    refine region_belowT 8 (by kernel_rfl) (by kernel_rfl) (Below.refl w3.heap.size w3) ?_
    simp only [List.take_succ_cons, List.take_zero, List.drop_succ_cons, List.drop_zero]
    repeat (go_big_quiet_step (first | (go_at_call 39; with_reducible exact (HZA.out _)) | (go_at_call 39; with_reducible exact (HZB.out _))))
    refine wpQuiet_nil ?_
    intro _ hw'
    obtain ⟨z, rfl⟩ := hw'
    obtain ⟨_, _, g2, g3⟩ := HCZ.out z
    have hne : B2 ≠ B3 := by have := HBC.out; have := HBD.out; omega
    have HG2 := hid (((g2.set (g := fa)).far (b' := B3) (k := 0) (v := .int .i64 fc.n) (Ne.symm hne)).far (b' := B3) (k := 1) (v := .int .i64 fc.d) (Ne.symm hne))
    have HG3 := hid (((g3.far (b' := B2) (k := 0) (v := .int .i64 fa.n) hne).far (b' := B2) (k := 1) (v := .int .i64 fa.d) hne).set (g := fc))
    obtain ⟨⟨j1, j2⟩, ⟨j3, j4⟩, j5⟩ := g2.cells
    obtain ⟨⟨j6, j7⟩, ⟨j8, j9⟩, j10⟩ := g3.cells
    have HZ := hid (HB3.out.trans (z.ok.mono HB3.out.size))
    clear k1 k2 g2 g3
    go_wp2_with fail
    obtain ⟨⟨t1, t2⟩, _, _⟩ := HG2.out.cells
    obtain ⟨⟨t3, t4⟩, _, _⟩ := HG3.out.cells
    have hle2 : w.heap.size ≤ B2 := by have := HB0.out; have := HBC.out; omega
    have hle3 : w.heap.size ≤ B3 := by have := HB0.out; have := HBD.out; omega
    exact bodyPost_ret (v := .tuple #[.agg #[.int .i64 fa.n, .int .i64 fa.d], .agg #[.int .i64 fc.n, .int .i64 fc.d]]) (by simp [results, Tryz.results36, go_sem, t1, t2, t3, t4]) rfl ⟨rfl, ((((HB1.out.trans (HZ.out.mono HB1.out.size)).setCell hle2 _).setCell hle2 _).setCell hle3 _).setCell hle3 _⟩
  | false =>
    simp only [Bool.false_eq_true, if_false] at hAl hCr
    subst hAl hCr
    go_enter Tryz.func36, Tryz.ntmps36
    go_upto_region 1 with (fail)
    rw [← HW1.out]
    clear HW1
    obtain ⟨B0, hB0⟩ : ∃ B0, B0 = w.heap.size := ⟨_, rfl⟩
    obtain ⟨B1, hB1⟩ : ∃ B1, B1 = B0 + 1 := ⟨_, rfl⟩
    obtain ⟨B2, hB2⟩ : ∃ B2, B2 = B0 + 2 := ⟨_, rfl⟩
    obtain ⟨B3, hB3⟩ : ∃ B3, B3 = B0 + 3 := ⟨_, rfl⟩
    have hB2' : B0 + 1 + 1 = B2 := by omega
    have hB3' : B2 + 1 = B3 := by omega
    rw [← hB0] at HC c0 c1 c2' c3 c4 HZ1
    rw [← hB1] at HC c4
    rw [← hB2, ← hB3] at HC
    rw [← hB0]
    try rw [hB2']
    try rw [hB3']
    try rw [← hB1]
    have HB0 := hid hB0; have HBB := hid hB1; have HBC := hid hB2; have HBD := hid hB3
    clear hB0 hB1 hB2 hB3 hB2' hB3'
    go_upto_region 2 with (first | (go_at_call 41; refine HFG.out.mono ?_; rintro e w2 ⟨v, rfl, hsz, hb2⟩; obtain ⟨T, r, K, rfl, hm, hf, hcc⟩ := hsz; have HCC := hid hcc; have hm2 := hm 295; have HB2 := hid hb2; clear hb2 hcc hm c0 c1 c2' c3 c4) | (refine (HCC.out _ (Below.refl _ _)).mono ?_; rintro e w3 ⟨rfl, hb3⟩; have HB3 := hid (bnext0 HB2.out hb3); clear hb3))
    obtain ⟨⟨p1, p2⟩, ⟨p3, p4⟩, p5, p6⟩ := HC.out w3 HB3.out
    have HP5 := hid p5; have HP6 := hid p6
    clear hm2 hf HFG HCC p5 p6
    go_upto_region 4 with (fail)
    have HZA := hid (below_class (wb := w3) (Nat.le_refl w3.heap.size) fun z => HT1.out z.val)
    have HZB := hid (below_class (wb := w3) (Nat.le_refl w3.heap.size) fun z => HT2.out z.val)
    have cz := fun z : BW w3.heap.size w3 => HC.out z.val (HB3.out.trans (z.ok.mono HB3.out.size))
    have k1 := fun z => (cz z).2.1.1
    have k2 := fun z => (cz z).2.1.2
    have HCZ := hid cz
    clear cz p1 p2 p3 p4
    refine region_belowT 8 (by kernel_rfl) (by kernel_rfl) (Below.refl w3.heap.size w3) ?_
    simp only [List.take_succ_cons, List.take_zero, List.drop_succ_cons, List.drop_zero]
    repeat (go_big_quiet_step (first | (go_at_call 39; with_reducible exact (HZA.out _)) | (go_at_call 39; with_reducible exact (HZB.out _))))
    refine wpQuiet_nil ?_
    intro _ hw'
    obtain ⟨z, rfl⟩ := hw'
    obtain ⟨_, _, g2, g3⟩ := HCZ.out z
    have hne : B2 ≠ B3 := by have := HBC.out; have := HBD.out; omega
    have HG2 := hid (((g2.set (g := fa)).far (b' := B3) (k := 0) (v := .int .i64 fc.n) (Ne.symm hne)).far (b' := B3) (k := 1) (v := .int .i64 fc.d) (Ne.symm hne))
    have HG3 := hid (((g3.far (b' := B2) (k := 0) (v := .int .i64 fa.n) hne).far (b' := B2) (k := 1) (v := .int .i64 fa.d) hne).set (g := fc))
    obtain ⟨⟨j1, j2⟩, ⟨j3, j4⟩, j5⟩ := g2.cells
    obtain ⟨⟨j6, j7⟩, ⟨j8, j9⟩, j10⟩ := g3.cells
    have HZ := hid (HB3.out.trans (z.ok.mono HB3.out.size))
    clear k1 k2 g2 g3
    go_wp2_with fail
    obtain ⟨⟨t1, t2⟩, _, _⟩ := HG2.out.cells
    obtain ⟨⟨t3, t4⟩, _, _⟩ := HG3.out.cells
    have hle2 : w.heap.size ≤ B2 := by have := HB0.out; have := HBC.out; omega
    have hle3 : w.heap.size ≤ B3 := by have := HB0.out; have := HBD.out; omega
    exact bodyPost_ret (v := .tuple #[.agg #[.int .i64 fa.n, .int .i64 fa.d], .agg #[.int .i64 fc.n, .int .i64 fc.d]]) (by simp [results, Tryz.results36, go_sem, t1, t2, t3, t4]) rfl ⟨rfl, ((((HB1.out.trans (HZ.out.mono HB1.out.size)).setCell hle2 _).setCell hle2 _).setCell hle3 _).setCell hle3 _⟩
end Go.Proofs.YtimblabaeclhpaaGreat
