/- WALK: the document's scale of a group (printed by gen_scaler.py). -/
import Derived.Test.YtfkcpcdndleboaaSizeR
import Derived.Test.YtfkcpcdndleboaaScaleW
import Derived.Test.YtfkcpcdndleboaaNumW
import Derived.Test.YtfkcpcdndleboaaGroupsW
import Derived.Test.YtfkcpcdndleboaaGenA
import Derived.Test.YtfkcpcdndleboaaLayE
import Derived.Test.YtfkcpcdndleboaaChk1
namespace Go.Proofs.Ytfkcpcdndleboaa
open Go.RowKit
theorem min_docB {s : Fr} (hs : ScOk s) {h : Int} (h0 : 4 ≤ h) (c : Bool) : (if c then minF s (frR 48 h) else s) = if (c && (decide (48 < h) && decide ((frR 48 h).lt s))) = true then frR 48 h else s := by
  have := min_doc hs h0
  cases c with
  | true => rw [if_pos rfl, ← this]; by_cases h1 : 48 < h <;> by_cases h2 : (frR 48 h).lt s <;> simp [h1, h2]
  | false => rfl
set_option maxRecDepth 100000 in
set_option maxHeartbeats 4000000 in
theorem rscale_any (P : Int) (ss : List Sg) (l : List Nd) (d wd : Int) (hp : Pln P ss l) (hsl : ss.length ≤ 1000000) (hsv : ∀ s ∈ ss, s.vals.length ≤ 1000000) (i : Nat) (hi : i < l.length) (A A2 : Option Addr) (c c2 : Nat) (w : World) (rs : Sgs w w.heap.size A ss) (rn : Nds w w.heap.size A2 l) :
    Calls Try.prog 67 #[.agg #[.int .i64 P, .slice A ss.length c], .agg #[.slice A2 l.length c2], .agg #[.int .i64 d, .int .i64 wd], .int .i64 i] w fun e w' => e = .returned (.agg #[.int .i64 (gS ss l (decide (d ≤ 2)) i).n, .int .i64 (gS ss l (decide (d ≤ 2)) i).d]) ∧ Below w.heap.size w w' := by
  have hn : l.length ≤ 200 := hp.len
  have hz := gZ_ok (rows := decide (d ≤ 2)) hp hi
  have hgs : gS ss l (decide (d ≤ 2)) i = scl (decide (d ≤ 2)) (nd l i) (gZ ss l (decide (d ≤ 2)) i) := rfl
  have HSZ := hid fun (W : World) (r1 : Sgs W W.heap.size A ss) (r2 : Nds W W.heap.size A2 l) => (show Calls Try.prog 65 #[.agg #[.int .i64 P, .slice A ss.length c], .agg #[.slice A2 l.length c2], .agg #[.int .i64 d, .int .i64 wd], .int .i64 i, .bool false] W fun e w' => e = .returned (.tuple #[.int .i64 (gZ ss l (decide (d ≤ 2)) i).1, .int .i64 (gZ ss l (decide (d ≤ 2)) i).2]) ∧ Below W.heap.size W w' from by
    have := rsize_any P ss l d wd hp hsl hsv l.length i hi (by omega) false A A2 c c2 W r1 r2
    rwa [rsz_false] at this)
  have HRW := hid fun W : World => rowsR_any d wd W
  have hd0 : ∀ x y : Int × Int, True := fun _ _ => trivial
  clear hd0
  obtain ⟨b, o, rfl, hbB, hc⟩ := rn.at (by omega)
  have hx := (hc i hi).kind
  have hkd : (l[i]).kind = (nd l i).kind := by rw [nd_at hi]
  rw [hkd] at hx
  have hS1 := sc_one
  have hS2 : ScOk (if (decide (d ≤ 2) || !decide ((nd l i).kind = 5)) = true then minF (whF 1) (frR 48 (gZ ss l (decide (d ≤ 2)) i).2) else whF 1) := by
    split
    · exact sc_min hS1 hz.p2 hz.m2 (by have := hz.b2; omega)
    · exact hS1
  have hscl : scl (decide (d ≤ 2)) (nd l i) (gZ ss l (decide (d ≤ 2)) i) = if (!decide (d ≤ 2) || !decide ((nd l i).kind = 5)) = true then minF (if (decide (d ≤ 2) || !decide ((nd l i).kind = 5)) = true then minF (whF 1) (frR 48 (gZ ss l (decide (d ≤ 2)) i).2) else whF 1) (frR 48 (gZ ss l (decide (d ≤ 2)) i).1) else (if (decide (d ≤ 2) || !decide ((nd l i).kind = 5)) = true then minF (whF 1) (frR 48 (gZ ss l (decide (d ≤ 2)) i).2) else whF 1) := by
    unfold scl
    cases decide (d ≤ 2) <;> by_cases h5 : (nd l i).kind = 5 <;> simp [h5]
  rw [hscl] at hgs
  rw [hgs]
  clear hgs hscl
  have z1 := hz.p1; have z2 := hz.p2; have z3 := hz.b1; have z4 := hz.b2
  generalize gZ ss l (decide (d ≤ 2)) i = z at *
  obtain ⟨zw, zh⟩ := z
  simp only [] at HSZ hS2 z1 z2 z3 z4 ⊢
  generalize decide (d ≤ 2) = rows at *
  generalize hkg : (nd l i).kind = kk at *
  have hsum : ∀ s : Fr, ScOk s → ∀ h : Int, 4 ≤ h → h ≤ 26400 → SumOk (frR 48 h) s := fun s hs h h0 h1 => (sum_sc hs h0 h1).swap
  obtain ⟨s1, hs1⟩ : ∃ s1, s1 = if (rows || !decide (kk = 5)) = true then minF (whF 1) (frR 48 zh) else whF 1 := ⟨_, rfl⟩
  rw [← hs1] at hS2 ⊢
  obtain ⟨s2, hs2⟩ : ∃ s2, s2 = if (!rows || !decide (kk = 5)) = true then minF s1 (frR 48 zw) else s1 := ⟨_, rfl⟩
  rw [← hs2]
  rw [min_docB hS1 z2] at hs1
  rw [min_docB hS2 z1] at hs2
  have HF2 := hid fun W : World => fracR_any 48 zh (by decide) (by decide) (by omega) (by omega) W
  have HF1 := hid fun W : World => fracR_any 48 zw (by decide) (by decide) (by omega) (by omega) W
  have HL2 := hid fun W : World => lessR_any (frR 48 zh) (whF 1) (hsum _ hS1 _ z2 (by omega)) W
  have HL1 := hid fun W : World => lessR_any (frR 48 zw) s1 (hsum _ hS2 _ z1 (by omega)) W
  have HWH := hid fun W : World => wholeR_any 1 W
  generalize frR 48 zh = q2 at *
  generalize frR 48 zw = q1 at *
  generalize decide (q2.lt (whF 1)) = l1 at *
  generalize decide (q1.lt s1) = l2 at *
  generalize whF 1 = f0 at *
  obtain ⟨C1, hC1⟩ : ∃ C1, C1 = ((rows || !decide (kk = 5)) && (decide (48 < zh) && l1)) := ⟨_, rfl⟩
  obtain ⟨C2, hC2⟩ : ∃ C2, C2 = ((!rows || !decide (kk = 5)) && (decide (48 < zw) && l2)) := ⟨_, rfl⟩
  rw [← hC1] at hs1
  rw [← hC2] at hs2
  have HC1 := hid hC1; have HC2 := hid hC2
  have Hs1 := hid hs1; have Hs2 := hid hs2
  clear hs1 hs2 hC1 hC2 hS1 hS2 hsum hz hkd hkg
  obtain ⟨w1, hw1⟩ : ∃ w1, w1 = (((w.alloc (.cells #[.int .i64 P, .slice A ss.length c] 24)).alloc (.cells #[.slice (some ⟨b, o, none⟩) l.length c2] 27)).alloc (.cells #[.int .i64 d, .int .i64 wd] 31)).alloc (.cells #[.int .i64 0, .int .i64 0] 52) := ⟨_, rfl⟩
  have hb1 : Below w.heap.size w w1 := by rw [hw1]; exact ((((Below.refl _ _).alloc (Nat.le_refl _) _).alloc (by simp) _).alloc (by simp; omega) _).alloc (by simp; omega) _
  have hz1' : w1.heap.size = w.heap.size + 4 := by rw [hw1]; simp
  have g0 : w1.heap[w.heap.size]? = some (.cells #[.int .i64 P, .slice A ss.length c] 24 (0, 0)) := by rw [hw1]; exact old_blk (old_blk (old_blk (nw_blk rfl)))
  have g1 : w1.heap[w.heap.size + 1]? = some (.cells #[.slice (some ⟨b, o, none⟩) l.length c2] 27 (0, 0)) := by rw [hw1]; exact old_blk (old_blk (nw_blk (by simp)))
  have g2 : w1.heap[w.heap.size + 2]? = some (.cells #[.int .i64 d, .int .i64 wd] 31 (0, 0)) := by rw [hw1]; exact old_blk (nw_blk (by simp))
  have g3 : w1.heap[w.heap.size + 3]? = some (.cells #[.int .i64 0, .int .i64 0] 52 (0, 0)) := by rw [hw1]; exact nw_blk (by simp)
  have HC := hid fun (W : World) (h : Below w1.heap.size w1 W) => (show (((W.cell? ⟨w.heap.size, 0, none⟩ = some (.int .i64 P) ∧ W.cell? ⟨w.heap.size, 1, none⟩ = some (.slice A ss.length c)) ∧ W.cell? ⟨w.heap.size + 1, 0, none⟩ = some (.slice (some ⟨b, o, none⟩) l.length c2) ∧ W.cell? ⟨w.heap.size + 2, 0, none⟩ = some (.int .i64 d) ∧ W.cell? ⟨w.heap.size + 2, 1, none⟩ = some (.int .i64 wd)) ∧
    W.cell? ⟨b, o + i * 8, none⟩ = some (.int .i64 kk)) ∧ FrB W (w.heap.size + 3) ⟨0, 0⟩ from by
    have e0 := (h.block _ (by omega)).trans g0
    have e1 := (h.block _ (by omega)).trans g1
    have e2 := (h.block _ (by omega)).trans g2
    refine ⟨⟨⟨⟨?_, ?_⟩, ?_, ?_, ?_⟩, ?_⟩, (h.block _ (by omega)).trans g3⟩
    · simp [World.cell?, e0]
    · simp [World.cell?, e0]
    · simp [World.cell?, e1]
    · simp [World.cell?, e2]
    · simp [World.cell?, e2]
    · exact ((hb1.trans (h.mono hb1.size)).cell (p := ⟨b, o + i * 8, none⟩) hbB).trans hx)
  have HS2 := hid (HSZ.out w1 ((rs.below hb1).more hb1.size) ((rn.below hb1).more hb1.size))
  have q5 : (i : Int) < (l.length : Int) := by omega
  have HW1 := hid hw1; have HB1 := hid hb1
  clear hw1 hb1 g0 g1 g2 g3 rs rn HSZ hc hx hp hsv hi hbB
  generalize l.length = n at *
  generalize ss.length = N at *
  go_enter Try.func67, Try.ntmps67
  go_upto_region 1 with (fail)
  simp only [Nat.add_assoc, Nat.reduceAdd]
  rw [← HW1.out]
  clear HW1
  obtain ⟨B0, hB0⟩ : ∃ B0, B0 = w.heap.size := ⟨_, rfl⟩
  obtain ⟨B1, hB1⟩ : ∃ B1, B1 = B0 + 1 := ⟨_, rfl⟩
  obtain ⟨B2, hB2⟩ : ∃ B2, B2 = B0 + 2 := ⟨_, rfl⟩
  obtain ⟨B3, hB3⟩ : ∃ B3, B3 = B0 + 3 := ⟨_, rfl⟩
  rw [← hB0] at HC
  rw [← hB1, ← hB2, ← hB3] at HC
  rw [← hB0]
  try rw [← hB1]
  try rw [← hB2]
  try rw [← hB3]
  have HB0 := hid hB0; have HB3' := hid (show w.heap.size ≤ B3 by omega); have HZW := hid hz1'
  clear hB0 hB1 hB2 hB3 hz1'
  obtain ⟨⟨⟨⟨c0, c1⟩, c2', c3, c4⟩, c5⟩, _⟩ := HC.out w1 (Below.refl _ _)
  go_upto_region 2 with (first | (go_at_call 65; refine HS2.out.mono ?_; rintro e w2 ⟨rfl, hb2⟩; have HB2 := hid hb2; clear hb2))
  clear c0 c1 c2' c3 c4 c5
  go_upto_region 3 with (first | (go_at_call 84; refine (HWH.out _).mono ?_; rintro e w3 ⟨rfl, hb3⟩; have HB3 := hid (bnext0 HB2.out hb3); clear hb3))
  obtain ⟨w4, hw4⟩ : ∃ w4, w4 = w3.alloc (.cells #[.int .i64 f0.n, .int .i64 f0.d] 52) := ⟨_, rfl⟩
  obtain ⟨b11, hb11⟩ : ∃ b11, b11 = w3.heap.size := ⟨_, rfl⟩
  have hf4 : FrB w4 b11 f0 := by rw [hw4, hb11]; exact FrB.new rfl
  have hb4 : Below w1.heap.size w1 w4 := by rw [hw4]; exact HB3.out.alloc HB3.out.size _
  have h411 : w1.heap.size ≤ b11 := by rw [hb11]; exact HB3.out.size
  rw [← hw4, ← hb11]
  have HF4 := hid hf4; have HB4 := hid hb4; have HLE := hid h411
  clear hw4 hb11 hf4 hb4 h411 HB3 HB2 HS2
  obtain ⟨⟨⟨⟨c0, c1⟩, c2', c3, c4⟩, c5⟩, _⟩ := HC.out w4 HB4.out
  go_upto_region 4 with (fail)
  clear c0 c1 c2' c3 c4 c5
  obtain ⟨rg, hrg⟩ : ∃ rg, rg = (kk == 5) := ⟨_, rfl⟩
  rw [← hrg]
  have HRG := hid hrg
  clear hrg
  go_cut [12, 44] (fun s12 st wx => s12 = .bool rg ∧ st = .bool C1 ∧ Hid (FrB wx b11 f0) ∧ Hid (Below w1.heap.size w1 wx))
  case first =>
    have HZR := hid (below_class (wb := w4) (Nat.le_refl w4.heap.size) fun z => HRW.out z.val)
    have HZF := hid (below_class (wb := w4) (Nat.le_refl w4.heap.size) fun z => HF2.out z.val)
    have HZL := hid (below_class (wb := w4) (Nat.le_refl w4.heap.size) fun z => HL2.out z.val)
    have cz : ∀ z : BW w4.heap.size w4, FrB z.val b11 f0 := fun z => HF4.out.below z.ok
    have HCZ := hid cz
    have k1 := fun z => (cz z).cells.1.1
    have k2 := fun z => (cz z).cells.1.2
    have cy := fun z : BW w4.heap.size w4 => HC.out z.val (HB4.out.trans (z.ok.mono HB4.out.size))
    have j3 := fun z => (cy z).1.1.2.2.1; have j4 := fun z => (cy z).1.1.2.2.2
    clear cz cy
    by_cases h5 : kk = 5
    · have e5 : rg = true := by rw [HRG.out]; simp [h5]
      have HE5 := hid e5
      cases rows with
      | true =>
        by_cases h8 : 48 < zh
        · have g8 : decide (48 < zh) = true := decide_eq_true h8
          cases l1 with
          | true =>
            have hr : C1 = true := by rw [HC1.out]; simp [h5, h8]
            have HR := hid hr
            clear hr
            refine region_below (by kernel_rfl) (by kernel_rfl) (Below.refl w4.heap.size w4) ?_
            repeat (go_big_quiet_step (first | (go_at_call 85; with_reducible exact (HZR.out _)) | (go_at_call 86; with_reducible exact (HZF.out _)) | (go_at_call 57; with_reducible exact (HZL.out _))))
            refine wpQuiet_nil ?_
            intro _ hw'
            obtain ⟨z, rfl⟩ := hw'
            have HZ := hid (HB4.out.trans (z.ok.mono HB4.out.size))
            have HG := hid (HCZ.out z)
            clear j3 j4 k1 k2
            go_wp2_with fail
            go_meet
            exact ⟨by rw [HE5.out], by rw [HR.out], HG, HZ⟩
          | false =>
            have hr : C1 = false := by rw [HC1.out]; simp [h5, h8]
            have HR := hid hr
            clear hr
            refine region_below (by kernel_rfl) (by kernel_rfl) (Below.refl w4.heap.size w4) ?_
            repeat (go_big_quiet_step (first | (go_at_call 85; with_reducible exact (HZR.out _)) | (go_at_call 86; with_reducible exact (HZF.out _)) | (go_at_call 57; with_reducible exact (HZL.out _))))
            refine wpQuiet_nil ?_
            intro _ hw'
            obtain ⟨z, rfl⟩ := hw'
            have HZ := hid (HB4.out.trans (z.ok.mono HB4.out.size))
            have HG := hid (HCZ.out z)
            clear j3 j4 k1 k2
            go_wp2_with fail
            go_meet
            exact ⟨by rw [HE5.out], by rw [HR.out], HG, HZ⟩
        · have g8 : decide (48 < zh) = false := decide_eq_false h8
          have hr : C1 = false := by rw [HC1.out]; simp [h5, h8]
          have HR := hid hr
          clear hr
          refine region_below (by kernel_rfl) (by kernel_rfl) (Below.refl w4.heap.size w4) ?_
          repeat (go_big_quiet_step (first | (go_at_call 85; with_reducible exact (HZR.out _))))
          refine wpQuiet_nil ?_
          intro _ hw'
          obtain ⟨z, rfl⟩ := hw'
          have HZ := hid (HB4.out.trans (z.ok.mono HB4.out.size))
          have HG := hid (HCZ.out z)
          clear j3 j4 k1 k2
          go_wp2_with fail
          go_meet
          exact ⟨by rw [HE5.out], by rw [HR.out], HG, HZ⟩
      | false =>
        have hr : C1 = false := by rw [HC1.out]; simp [h5]
        have HR := hid hr
        clear hr
        refine region_below (by kernel_rfl) (by kernel_rfl) (Below.refl w4.heap.size w4) ?_
        repeat (go_big_quiet_step (first | (go_at_call 85; with_reducible exact (HZR.out _))))
        refine wpQuiet_nil ?_
        intro _ hw'
        obtain ⟨z, rfl⟩ := hw'
        have HZ := hid (HB4.out.trans (z.ok.mono HB4.out.size))
        have HG := hid (HCZ.out z)
        clear j3 j4 k1 k2
        go_wp2_with fail
        go_meet
        exact ⟨by rw [HE5.out], by rw [HR.out], HG, HZ⟩
    · have e5 : rg = false := by rw [HRG.out]; simp [h5]
      have HE5 := hid e5
      cases rows with
      | true =>
        by_cases h8 : 48 < zh
        · have g8 : decide (48 < zh) = true := decide_eq_true h8
          cases l1 with
          | true =>
            have hr : C1 = true := by rw [HC1.out]; simp [h5, h8]
            have HR := hid hr
            clear hr
            refine region_below (by kernel_rfl) (by kernel_rfl) (Below.refl w4.heap.size w4) ?_
            repeat (go_big_quiet_step (first | (go_at_call 85; with_reducible exact (HZR.out _)) | (go_at_call 86; with_reducible exact (HZF.out _)) | (go_at_call 57; with_reducible exact (HZL.out _))))
            refine wpQuiet_nil ?_
            intro _ hw'
            obtain ⟨z, rfl⟩ := hw'
            have HZ := hid (HB4.out.trans (z.ok.mono HB4.out.size))
            have HG := hid (HCZ.out z)
            clear j3 j4 k1 k2
            go_wp2_with fail
            go_meet
            exact ⟨by rw [HE5.out], by rw [HR.out], HG, HZ⟩
          | false =>
            have hr : C1 = false := by rw [HC1.out]; simp [h5, h8]
            have HR := hid hr
            clear hr
            refine region_below (by kernel_rfl) (by kernel_rfl) (Below.refl w4.heap.size w4) ?_
            repeat (go_big_quiet_step (first | (go_at_call 85; with_reducible exact (HZR.out _)) | (go_at_call 86; with_reducible exact (HZF.out _)) | (go_at_call 57; with_reducible exact (HZL.out _))))
            refine wpQuiet_nil ?_
            intro _ hw'
            obtain ⟨z, rfl⟩ := hw'
            have HZ := hid (HB4.out.trans (z.ok.mono HB4.out.size))
            have HG := hid (HCZ.out z)
            clear j3 j4 k1 k2
            go_wp2_with fail
            go_meet
            exact ⟨by rw [HE5.out], by rw [HR.out], HG, HZ⟩
        · have g8 : decide (48 < zh) = false := decide_eq_false h8
          have hr : C1 = false := by rw [HC1.out]; simp [h5, h8]
          have HR := hid hr
          clear hr
          refine region_below (by kernel_rfl) (by kernel_rfl) (Below.refl w4.heap.size w4) ?_
          repeat (go_big_quiet_step (first | (go_at_call 85; with_reducible exact (HZR.out _))))
          refine wpQuiet_nil ?_
          intro _ hw'
          obtain ⟨z, rfl⟩ := hw'
          have HZ := hid (HB4.out.trans (z.ok.mono HB4.out.size))
          have HG := hid (HCZ.out z)
          clear j3 j4 k1 k2
          go_wp2_with fail
          go_meet
          exact ⟨by rw [HE5.out], by rw [HR.out], HG, HZ⟩
      | false =>
        by_cases h8 : 48 < zh
        · have g8 : decide (48 < zh) = true := decide_eq_true h8
          cases l1 with
          | true =>
            have hr : C1 = true := by rw [HC1.out]; simp [h5, h8]
            have HR := hid hr
            clear hr
            refine region_below (by kernel_rfl) (by kernel_rfl) (Below.refl w4.heap.size w4) ?_
            repeat (go_big_quiet_step (first | (go_at_call 85; with_reducible exact (HZR.out _)) | (go_at_call 86; with_reducible exact (HZF.out _)) | (go_at_call 57; with_reducible exact (HZL.out _))))
            refine wpQuiet_nil ?_
            intro _ hw'
            obtain ⟨z, rfl⟩ := hw'
            have HZ := hid (HB4.out.trans (z.ok.mono HB4.out.size))
            have HG := hid (HCZ.out z)
            clear j3 j4 k1 k2
            go_wp2_with fail
            go_meet
            exact ⟨by rw [HE5.out], by rw [HR.out], HG, HZ⟩
          | false =>
            have hr : C1 = false := by rw [HC1.out]; simp [h5, h8]
            have HR := hid hr
            clear hr
            refine region_below (by kernel_rfl) (by kernel_rfl) (Below.refl w4.heap.size w4) ?_
            repeat (go_big_quiet_step (first | (go_at_call 85; with_reducible exact (HZR.out _)) | (go_at_call 86; with_reducible exact (HZF.out _)) | (go_at_call 57; with_reducible exact (HZL.out _))))
            refine wpQuiet_nil ?_
            intro _ hw'
            obtain ⟨z, rfl⟩ := hw'
            have HZ := hid (HB4.out.trans (z.ok.mono HB4.out.size))
            have HG := hid (HCZ.out z)
            clear j3 j4 k1 k2
            go_wp2_with fail
            go_meet
            exact ⟨by rw [HE5.out], by rw [HR.out], HG, HZ⟩
        · have g8 : decide (48 < zh) = false := decide_eq_false h8
          have hr : C1 = false := by rw [HC1.out]; simp [h5, h8]
          have HR := hid hr
          clear hr
          refine region_below (by kernel_rfl) (by kernel_rfl) (Below.refl w4.heap.size w4) ?_
          repeat (go_big_quiet_step (first | (go_at_call 85; with_reducible exact (HZR.out _))))
          refine wpQuiet_nil ?_
          intro _ hw'
          obtain ⟨z, rfl⟩ := hw'
          have HZ := hid (HB4.out.trans (z.ok.mono HB4.out.size))
          have HG := hid (HCZ.out z)
          clear j3 j4 k1 k2
          go_wp2_with fail
          go_meet
          exact ⟨by rw [HE5.out], by rw [HR.out], HG, HZ⟩
  obtain ⟨rfl, rfl, HF5, HB5⟩ := hcut
  clear HF4 HB4
  obtain ⟨w5, hw5⟩ : ∃ w5, w5 = wc := ⟨_, rfl⟩
  subst hw5
  go_upto_if 44 with (fail)
  go_cut [] (fun wx => Hid (FrB wx b11 s1) ∧ Hid (Below w1.heap.size w1 wx))
  case first =>
    cases C1 with
    | true =>
      have HX := hid (Hs1.out.trans (if_pos rfl))
      obtain ⟨⟨j1, j2⟩, ⟨j3, j4⟩, j5⟩ := HF5.out.cells
      clear j1 j2 j3 j4 j5
      go_wp2_with (first | (go_at_call 86; refine (HF2.out _).mono ?_; rintro e w9 ⟨rfl, hb9⟩; have HB9 := hid (HB5.out.trans (hb9.mono HB5.out.size)); have HF9 := hid (HF5.out.below hb9); obtain ⟨⟨j1, j2⟩, ⟨j3, j4⟩, j5⟩ := HF9.out.cells; clear hb9))
      go_meet
      exact ⟨by rw [HX.out]; exact hid HF9.out.set, hid ((HB9.out.setCell HLE.out _).setCell HLE.out _)⟩
    | false =>
      have HX := hid (Hs1.out.trans (if_neg (by decide)))
      go_wp2_with fail
      go_meet
      exact ⟨by rw [HX.out]; exact HF5, HB5⟩
  obtain ⟨HF6, HB6⟩ := hcut
  clear HF5 HB5
  obtain ⟨w6, hw6⟩ : ∃ w6, w6 = wc := ⟨_, rfl⟩
  subst hw6
  go_upto_region 6 with (fail)
  go_cut [12, 63] (fun s12 st wx => s12 = .bool rg ∧ st = .bool C2 ∧ Hid (FrB wx b11 s1) ∧ Hid (Below w1.heap.size w1 wx))
  case first =>
    have HZR := hid (below_class (wb := w6) (Nat.le_refl w6.heap.size) fun z => HRW.out z.val)
    have HZF := hid (below_class (wb := w6) (Nat.le_refl w6.heap.size) fun z => HF1.out z.val)
    have HZL := hid (below_class (wb := w6) (Nat.le_refl w6.heap.size) fun z => HL1.out z.val)
    have cz : ∀ z : BW w6.heap.size w6, FrB z.val b11 s1 := fun z => HF6.out.below z.ok
    have HCZ := hid cz
    have k1 := fun z => (cz z).cells.1.1
    have k2 := fun z => (cz z).cells.1.2
    have cy := fun z : BW w6.heap.size w6 => HC.out z.val (HB6.out.trans (z.ok.mono HB6.out.size))
    have j3 := fun z => (cy z).1.1.2.2.1; have j4 := fun z => (cy z).1.1.2.2.2
    clear cz cy
    by_cases h5 : kk = 5
    · have e5 : rg = true := by rw [HRG.out]; simp [h5]
      have HE5 := hid e5
      cases rows with
      | true =>
        have hr : C2 = false := by rw [HC2.out]; simp [h5]
        have HR := hid hr
        clear hr
        refine region_below (by kernel_rfl) (by kernel_rfl) (Below.refl w6.heap.size w6) ?_
        repeat (go_big_quiet_step (first | (go_at_call 85; with_reducible exact (HZR.out _))))
        refine wpQuiet_nil ?_
        intro _ hw'
        obtain ⟨z, rfl⟩ := hw'
        have HZ := hid (HB6.out.trans (z.ok.mono HB6.out.size))
        have HG := hid (HCZ.out z)
        clear j3 j4 k1 k2
        go_wp2_with fail
        go_meet
        exact ⟨by rw [HE5.out], by rw [HR.out], HG, HZ⟩
      | false =>
        by_cases h8 : 48 < zw
        · have g8 : decide (48 < zw) = true := decide_eq_true h8
          cases l2 with
          | true =>
            have hr : C2 = true := by rw [HC2.out]; simp [h5, h8]
            have HR := hid hr
            clear hr
            refine region_below (by kernel_rfl) (by kernel_rfl) (Below.refl w6.heap.size w6) ?_
            repeat (go_big_quiet_step (first | (go_at_call 85; with_reducible exact (HZR.out _)) | (go_at_call 86; with_reducible exact (HZF.out _)) | (go_at_call 57; with_reducible exact (HZL.out _))))
            refine wpQuiet_nil ?_
            intro _ hw'
            obtain ⟨z, rfl⟩ := hw'
            have HZ := hid (HB6.out.trans (z.ok.mono HB6.out.size))
            have HG := hid (HCZ.out z)
            clear j3 j4 k1 k2
            go_wp2_with fail
            go_meet
            exact ⟨by rw [HE5.out], by rw [HR.out], HG, HZ⟩
          | false =>
            have hr : C2 = false := by rw [HC2.out]; simp [h5, h8]
            have HR := hid hr
            clear hr
            refine region_below (by kernel_rfl) (by kernel_rfl) (Below.refl w6.heap.size w6) ?_
            repeat (go_big_quiet_step (first | (go_at_call 85; with_reducible exact (HZR.out _)) | (go_at_call 86; with_reducible exact (HZF.out _)) | (go_at_call 57; with_reducible exact (HZL.out _))))
            refine wpQuiet_nil ?_
            intro _ hw'
            obtain ⟨z, rfl⟩ := hw'
            have HZ := hid (HB6.out.trans (z.ok.mono HB6.out.size))
            have HG := hid (HCZ.out z)
            clear j3 j4 k1 k2
            go_wp2_with fail
            go_meet
            exact ⟨by rw [HE5.out], by rw [HR.out], HG, HZ⟩
        · have g8 : decide (48 < zw) = false := decide_eq_false h8
          have hr : C2 = false := by rw [HC2.out]; simp [h5, h8]
          have HR := hid hr
          clear hr
          refine region_below (by kernel_rfl) (by kernel_rfl) (Below.refl w6.heap.size w6) ?_
          repeat (go_big_quiet_step (first | (go_at_call 85; with_reducible exact (HZR.out _))))
          refine wpQuiet_nil ?_
          intro _ hw'
          obtain ⟨z, rfl⟩ := hw'
          have HZ := hid (HB6.out.trans (z.ok.mono HB6.out.size))
          have HG := hid (HCZ.out z)
          clear j3 j4 k1 k2
          go_wp2_with fail
          go_meet
          exact ⟨by rw [HE5.out], by rw [HR.out], HG, HZ⟩
    · have e5 : rg = false := by rw [HRG.out]; simp [h5]
      have HE5 := hid e5
      cases rows with
      | true =>
        by_cases h8 : 48 < zw
        · have g8 : decide (48 < zw) = true := decide_eq_true h8
          cases l2 with
          | true =>
            have hr : C2 = true := by rw [HC2.out]; simp [h5, h8]
            have HR := hid hr
            clear hr
            refine region_below (by kernel_rfl) (by kernel_rfl) (Below.refl w6.heap.size w6) ?_
            repeat (go_big_quiet_step (first | (go_at_call 85; with_reducible exact (HZR.out _)) | (go_at_call 86; with_reducible exact (HZF.out _)) | (go_at_call 57; with_reducible exact (HZL.out _))))
            refine wpQuiet_nil ?_
            intro _ hw'
            obtain ⟨z, rfl⟩ := hw'
            have HZ := hid (HB6.out.trans (z.ok.mono HB6.out.size))
            have HG := hid (HCZ.out z)
            clear j3 j4 k1 k2
            go_wp2_with fail
            go_meet
            exact ⟨by rw [HE5.out], by rw [HR.out], HG, HZ⟩
          | false =>
            have hr : C2 = false := by rw [HC2.out]; simp [h5, h8]
            have HR := hid hr
            clear hr
            refine region_below (by kernel_rfl) (by kernel_rfl) (Below.refl w6.heap.size w6) ?_
            repeat (go_big_quiet_step (first | (go_at_call 85; with_reducible exact (HZR.out _)) | (go_at_call 86; with_reducible exact (HZF.out _)) | (go_at_call 57; with_reducible exact (HZL.out _))))
            refine wpQuiet_nil ?_
            intro _ hw'
            obtain ⟨z, rfl⟩ := hw'
            have HZ := hid (HB6.out.trans (z.ok.mono HB6.out.size))
            have HG := hid (HCZ.out z)
            clear j3 j4 k1 k2
            go_wp2_with fail
            go_meet
            exact ⟨by rw [HE5.out], by rw [HR.out], HG, HZ⟩
        · have g8 : decide (48 < zw) = false := decide_eq_false h8
          have hr : C2 = false := by rw [HC2.out]; simp [h5, h8]
          have HR := hid hr
          clear hr
          refine region_below (by kernel_rfl) (by kernel_rfl) (Below.refl w6.heap.size w6) ?_
          repeat (go_big_quiet_step (first | (go_at_call 85; with_reducible exact (HZR.out _))))
          refine wpQuiet_nil ?_
          intro _ hw'
          obtain ⟨z, rfl⟩ := hw'
          have HZ := hid (HB6.out.trans (z.ok.mono HB6.out.size))
          have HG := hid (HCZ.out z)
          clear j3 j4 k1 k2
          go_wp2_with fail
          go_meet
          exact ⟨by rw [HE5.out], by rw [HR.out], HG, HZ⟩
      | false =>
        by_cases h8 : 48 < zw
        · have g8 : decide (48 < zw) = true := decide_eq_true h8
          cases l2 with
          | true =>
            have hr : C2 = true := by rw [HC2.out]; simp [h5, h8]
            have HR := hid hr
            clear hr
            refine region_below (by kernel_rfl) (by kernel_rfl) (Below.refl w6.heap.size w6) ?_
            repeat (go_big_quiet_step (first | (go_at_call 85; with_reducible exact (HZR.out _)) | (go_at_call 86; with_reducible exact (HZF.out _)) | (go_at_call 57; with_reducible exact (HZL.out _))))
            refine wpQuiet_nil ?_
            intro _ hw'
            obtain ⟨z, rfl⟩ := hw'
            have HZ := hid (HB6.out.trans (z.ok.mono HB6.out.size))
            have HG := hid (HCZ.out z)
            clear j3 j4 k1 k2
            go_wp2_with fail
            go_meet
            exact ⟨by rw [HE5.out], by rw [HR.out], HG, HZ⟩
          | false =>
            have hr : C2 = false := by rw [HC2.out]; simp [h5, h8]
            have HR := hid hr
            clear hr
            refine region_below (by kernel_rfl) (by kernel_rfl) (Below.refl w6.heap.size w6) ?_
            repeat (go_big_quiet_step (first | (go_at_call 85; with_reducible exact (HZR.out _)) | (go_at_call 86; with_reducible exact (HZF.out _)) | (go_at_call 57; with_reducible exact (HZL.out _))))
            refine wpQuiet_nil ?_
            intro _ hw'
            obtain ⟨z, rfl⟩ := hw'
            have HZ := hid (HB6.out.trans (z.ok.mono HB6.out.size))
            have HG := hid (HCZ.out z)
            clear j3 j4 k1 k2
            go_wp2_with fail
            go_meet
            exact ⟨by rw [HE5.out], by rw [HR.out], HG, HZ⟩
        · have g8 : decide (48 < zw) = false := decide_eq_false h8
          have hr : C2 = false := by rw [HC2.out]; simp [h5, h8]
          have HR := hid hr
          clear hr
          refine region_below (by kernel_rfl) (by kernel_rfl) (Below.refl w6.heap.size w6) ?_
          repeat (go_big_quiet_step (first | (go_at_call 85; with_reducible exact (HZR.out _))))
          refine wpQuiet_nil ?_
          intro _ hw'
          obtain ⟨z, rfl⟩ := hw'
          have HZ := hid (HB6.out.trans (z.ok.mono HB6.out.size))
          have HG := hid (HCZ.out z)
          clear j3 j4 k1 k2
          go_wp2_with fail
          go_meet
          exact ⟨by rw [HE5.out], by rw [HR.out], HG, HZ⟩
  obtain ⟨rfl, rfl, HF7, HB7⟩ := hcut
  clear HF6 HB6
  obtain ⟨w7, hw7⟩ : ∃ w7, w7 = wc := ⟨_, rfl⟩
  subst hw7
  go_upto_if 63 with (fail)
  go_cut [] (fun wx => Hid (FrB wx b11 s2) ∧ Hid (Below w1.heap.size w1 wx))
  case first =>
    cases C2 with
    | true =>
      have HX := hid (Hs2.out.trans (if_pos rfl))
      obtain ⟨⟨j1, j2⟩, ⟨j3, j4⟩, j5⟩ := HF7.out.cells
      clear j1 j2 j3 j4 j5
      go_wp2_with (first | (go_at_call 86; refine (HF1.out _).mono ?_; rintro e w9 ⟨rfl, hb9⟩; have HB9 := hid (HB7.out.trans (hb9.mono HB7.out.size)); have HF9 := hid (HF7.out.below hb9); obtain ⟨⟨j1, j2⟩, ⟨j3, j4⟩, j5⟩ := HF9.out.cells; clear hb9))
      go_meet
      exact ⟨by rw [HX.out]; exact hid HF9.out.set, hid ((HB9.out.setCell HLE.out _).setCell HLE.out _)⟩
    | false =>
      have HX := hid (Hs2.out.trans (if_neg (by decide)))
      go_wp2_with fail
      go_meet
      exact ⟨by rw [HX.out]; exact HF7, HB7⟩
  obtain ⟨HF8, HB8⟩ := hcut
  clear HF7 HB7
  obtain ⟨w8, hw8⟩ : ∃ w8, w8 = wc := ⟨_, rfl⟩
  subst hw8
  obtain ⟨⟨k1, k2⟩, _, _⟩ := HF8.out.cells
  have hr := (HC.out w8 HB8.out).2
  obtain ⟨⟨j1, j2⟩, ⟨j3, j4⟩, j5⟩ := hr.cells
  clear hr
  go_wp2_with fail
  have t1 := World.cell?_setCell_same _ _ (.int .i64 s2.n) j1
  exact bodyPost_ret (v := .agg #[.int .i64 s2.n, .int .i64 s2.d]) (by simp [results, Try.results67, go_sem, j2, t1]) rfl ⟨rfl, ((HB1.out.trans (HB8.out.mono HB1.out.size)).setCell HB3'.out _).setCell HB3'.out _⟩
end Go.Proofs.Ytfkcpcdndleboaa

/- WALK: where groups stand, by the document (printed by gen_standr.py). -/
namespace Go.Proofs.Ytfkcpcdndleboaa
open Go.RowKit
/-- The boxes of a list, a text and a page. -/
structure DocB (W : World) (B : Nat) (P : Int) (vl vt : Value) (d wd : Int) : Prop where
  b0 : W.heap[B]? = some (.cells #[.int .i64 P, vl] 24 (0, 0))
  b1 : W.heap[B + 1]? = some (.cells #[vt] 27 (0, 0))
  b2 : W.heap[B + 2]? = some (.cells #[.int .i64 d, .int .i64 wd] 31 (0, 0))
structure DocC (W : World) (B B1 B2 : Nat) (P : Int) (vl vt : Value) (d wd : Int) : Prop where
  c0 : W.cell? ⟨B, 0, none⟩ = some (.int .i64 P)
  c1 : W.cell? ⟨B, 1, none⟩ = some vl
  c2 : W.cell? ⟨B1, 0, none⟩ = some vt
  c3 : W.cell? ⟨B2, 0, none⟩ = some (.int .i64 d)
  c4 : W.cell? ⟨B2, 1, none⟩ = some (.int .i64 wd)
theorem DocB.cells {W : World} {B : Nat} {P : Int} {vl vt : Value} {d wd : Int} (h : DocB W B P vl vt d wd) : DocC W B (B + 1) (B + 2) P vl vt d wd := by
  have e0 := h.b0; have e1 := h.b1; have e2 := h.b2
  constructor <;> simp [World.cell?, e0, e1, e2]
theorem DocB.below {W W' : World} {B n : Nat} {P : Int} {vl vt : Value} {d wd : Int} (h : DocB W B P vl vt d wd) (hb : Below n W W') (hn : B + 2 < n) : DocB W' B P vl vt d wd :=
  ⟨(hb.block _ (by omega)).trans h.b0, (hb.block _ (by omega)).trans h.b1, (hb.block _ (by omega)).trans h.b2⟩
theorem DocB.new (w : World) (P : Int) (vl vt : Value) (d wd : Int) : DocB (((w.alloc (.cells #[.int .i64 P, vl] 24)).alloc (.cells #[vt] 27)).alloc (.cells #[.int .i64 d, .int .i64 wd] 31)) w.heap.size P vl vt d wd :=
  ⟨old_blk (old_blk (nw_blk rfl)), old_blk (nw_blk (by simp)), nw_blk (by simp)⟩
/-- Stands in a row. -/
def stC (c : Int × Int) : List Value := [.int .i64 c.1, .int .i64 c.2]
def flatT (L : List (Int × Int)) : List Value := L.flatMap stC
theorem flatT_app (L M : List (Int × Int)) : flatT (L ++ M) = flatT L ++ flatT M := List.flatMap_append ..
theorem flatT_one (s : Int × Int) : flatT [s] = stC s := by unfold flatT; simp
theorem flatT_len (L : List (Int × Int)) : (flatT L).length = L.length * 2 := by
  induction L with
  | nil => rfl
  | cons x L ih => unfold flatT at ih ⊢; rw [List.flatMap_cons, List.length_append, ih, List.length_cons]; unfold stC; simp; omega
theorem flatT_get : ∀ (L : List (Int × Int)) (k j : Nat) (hk : k < L.length), j < 2 → (flatT L)[k * 2 + j]? = (stC L[k])[j]?
  | g :: L, 0, j, _, hj => by
    unfold flatT
    rw [List.flatMap_cons, List.getElem?_append_left (by unfold stC; simp; omega)]
    simp
  | g :: L, k + 1, j, hk, hj => by
    have ih := flatT_get L k j (by simpa using hk) hj
    unfold flatT at ih ⊢
    rw [List.flatMap_cons, List.getElem?_append_right (by unfold stC; simp; omega), List.getElem_cons_succ, ← ih]
    congr 1
    unfold stC
    simp
    omega
section
variable (ss : List Sg) (l : List Nd) (rows : Bool) (len : Int)
noncomputable def sdJ (j : Nat) : List (Int × Int) := stands len (((kidsOf l (-1)).take j).map (gL ss l rows)) (0, 0)
end
section
variable {ss : List Sg} {l : List Nd} {rows : Bool} {len : Int}
theorem sdJ_0 : sdJ ss l rows len 0 = [] := rfl
theorem sdJ_s {j : Nat} (h : j < (kidsOf l (-1)).length) : sdJ ss l rows len (j + 1) = sdJ ss l rows len j ++ [stq len (stJ ss l rows len j) (gL ss l rows (kidsOf l (-1))[j])] := by
  unfold sdJ stJ
  rw [take_s h, List.map_append, List.map_cons, List.map_nil, stands_snoc]
theorem sdJ_end : sdJ ss l rows len (kidsOf l (-1)).length = layS ss l rows len := by
  unfold sdJ layS
  rw [List.take_length]
theorem sdJ_len {j : Nat} (h : j ≤ (kidsOf l (-1)).length) : (sdJ ss l rows len j).length = j := by
  unfold sdJ
  rw [stands_len, List.length_map, List.length_take]
  omega
end
theorem ceil_doc {n d : Int} (h : 0 < d) : (n + d - 1) / d = ceilF ⟨n, d⟩ := by
  show (n + d - 1) / d = -((-n) / d)
  have h1 := Int.mul_ediv_add_emod (-n) d
  have h2 := Int.emod_nonneg (-n) (by omega : d ≠ 0)
  have h3 := Int.emod_lt_of_pos (-n) h
  have e : n + d - 1 = (d - 1 - (-n) % d) + d * (-((-n) / d)) := by rw [Int.mul_neg]; omega
  rw [e, Int.add_mul_ediv_left _ _ (by omega), Int.ediv_eq_zero_of_lt (by omega) (by omega), Int.zero_add]
theorem Try.underStands : Try.prog.underlying 112 = some (.slice 115) := by kernel_rfl
theorem Try.infoStand : (Try.prog.info? 115).map (fun i => (i.zero, i.size, i.bytes)) = some (some (.agg #[.int .i64 0, .int .i64 0]), 2, 16) := by kernel_rfl
theorem Try.xalFrac14 {g : Array Edge} {t : TypeId} {p : String} : XAl Try.prog { dst := some 14, op := Op.alloc 52, type := t, pos := p, after := g, guard := none } (.cells #[.int .i64 0, .int .i64 0] 52 (0, 0)) := ⟨rfl, fun a w => by simp [go_sem]⟩
set_option maxRecDepth 100000 in
set_option maxHeartbeats 8000000 in
theorem rstands_any (P : Int) (ss : List Sg) (l : List Nd) (d wd : Int) (hp : Pln P ss l) (hsl : ss.length ≤ 1000000) (hsv : ∀ s ∈ ss, s.vals.length ≤ 1000000) (hl0 : 0 ≤ wd) (hl1 : wd ≤ 4800) (A A2 : Option Addr) (c c2 : Nat) (w : World) (rs : Sgs w w.heap.size A ss) (rn : Nds w w.heap.size A2 l) :
    Calls Try.prog 62 #[.agg #[.int .i64 P, .slice A ss.length c], .agg #[.slice A2 l.length c2], .agg #[.int .i64 d, .int .i64 wd]] w fun e w' => ∃ v, e = .returned v ∧ w'.ownsRow w.heap.size 115 2 v (layS ss l (decide (d ≤ 2)) wd).length (flatT (layS ss l (decide (d ≤ 2)) wd)) ∧ Below w.heap.size w w' := by
  have hn := hp.len
  obtain ⟨w1, hw1⟩ : ∃ w1, w1 = ((w.alloc (.cells #[.int .i64 P, .slice A ss.length c] 24)).alloc (.cells #[.slice A2 l.length c2] 27)).alloc (.cells #[.int .i64 d, .int .i64 wd] 31) := ⟨_, rfl⟩
  have hb1 : Below w.heap.size w w1 := by rw [hw1]; exact (((Below.refl _ _).alloc (Nat.le_refl _) _).alloc (by simp) _).alloc (by simp; omega) _
  have hz1 : w1.heap.size = w.heap.size + 3 := by rw [hw1]; simp
  have hdoc : DocB w1 w.heap.size P (.slice A ss.length c) (.slice A2 l.length c2) d wd := by rw [hw1]; exact DocB.new _ _ _ _ _ _
  have HC := hid fun (W : World) (h : Below w1.heap.size w1 W) => (hdoc.below h (by omega)).cells
  have HRN := hid fun (W : World) (h : Below w1.heap.size w1 W) => (show Nds W W.heap.size A2 l from Reads.more (rn.below (hb1.trans (h.mono hb1.size))) (Nat.le_trans hb1.size h.size))
  have HRS := hid fun (W : World) (h : Below w1.heap.size w1 W) => (show Sgs W W.heap.size A ss from (rs.below (hb1.trans (h.mono hb1.size))).more (Nat.le_trans hb1.size h.size))
  have HSZ := hid fun (k : Nat) (hk : k < l.length) (W : World) (h : Below w1.heap.size w1 W) => (show Calls Try.prog 65 #[.agg #[.int .i64 P, .slice A ss.length c], .agg #[.slice A2 l.length c2], .agg #[.int .i64 d, .int .i64 wd], .int .i64 k, .bool false] W fun e w' => e = .returned (.tuple #[.int .i64 (gZ ss l (decide (d ≤ 2)) k).1, .int .i64 (gZ ss l (decide (d ≤ 2)) k).2]) ∧ Below W.heap.size W w' from by
    have := rsize_any P ss l d wd hp hsl hsv l.length k hk (by omega) false A A2 c c2 W (HRS.out W h) (HRN.out W h)
    rwa [rsz_false] at this)
  have HSC := hid fun (k : Nat) (hk : k < l.length) (W : World) (h : Below w1.heap.size w1 W) => rscale_any P ss l d wd hp hsl hsv k hk A A2 c c2 W (HRS.out W h) (HRN.out W h)
  have HKC := hid (refKids_any l (-1) (by omega) (by omega) hp.val.good.deps (by omega) A2 c2 w1 (HRN.out w1 (Below.refl _ _)))
  rw [rkids_eq hp.val.good.wf (by omega) (by omega)] at HKC
  have hml := kidsOf_len (l := l) (node := -1) (by omega)
  have HPO := hid fun (j : Nat) (hj : j < (kidsOf l (-1)).length) => (show ∃ (k : Nat), k < l.length ∧ (ints (nz (kidsOf l (-1))))[j]? = some (.int .i64 k) ∧ LgB (gL ss l (decide (d ≤ 2)) k) ∧ ScOk (gS ss l (decide (d ≤ 2)) k) ∧ SzOk 26400 (gZ ss l (decide (d ≤ 2)) k) ∧
      sdJ ss l (decide (d ≤ 2)) wd (j + 1) = sdJ ss l (decide (d ≤ 2)) wd j ++ [stq wd (stJ ss l (decide (d ≤ 2)) wd j) (gL ss l (decide (d ≤ 2)) k)] ∧ stJ ss l (decide (d ≤ 2)) wd (j + 1) = stn (stq wd (stJ ss l (decide (d ≤ 2)) wd j) (gL ss l (decide (d ≤ 2)) k)) (gL ss l (decide (d ≤ 2)) k) ∧
      gL ss l (decide (d ≤ 2)) k = frR ((if decide (d ≤ 2) then (gZ ss l (decide (d ≤ 2)) k).1 else (gZ ss l (decide (d ≤ 2)) k).2) * (gS ss l (decide (d ≤ 2)) k).n) (gS ss l (decide (d ≤ 2)) k).d from by
    have hk := grp_mem (List.getElem_mem hj)
    have hz := gZ_ok (rows := decide (d ≤ 2)) hp hk
    refine ⟨(kidsOf l (-1))[j], hk, by unfold ints nz; simp [List.getElem?_eq_getElem hj], gL_bd hp hk, gS_ok hp hk, ?_, sdJ_s hj, stJ_s hj, rfl⟩
    have h2 : spn l (kidsOf l (-1))[j] ≤ 200 := by unfold spn; have := endOf_le (l := l) (i := (kidsOf l (-1))[j]) hk; omega
    first | exact hz | exact hz.more (by omega))
  have HST := hid fun (j : Nat) (hj : j ≤ (kidsOf l (-1)).length) => (show (0 ≤ (stJ ss l (decide (d ≤ 2)) wd j).1 ∧ (stJ ss l (decide (d ≤ 2)) wd j).1 ≤ 200) ∧ 0 ≤ (stJ ss l (decide (d ≤ 2)) wd j).2 ∧ (stJ ss l (decide (d ≤ 2)) wd j).2 ≤ 31224 from by
    have h := stJ_ok (rows := decide (d ≤ 2)) (len := wd) hp hl0 hj
    have a1 := h.l0; have a2 := h.l1; have a3 := h.a0; have a4 := h.a1
    exact ⟨⟨a1, by omega⟩, a3, by omega⟩)
  have HGE := hid (show sdJ ss l (decide (d ≤ 2)) wd (kidsOf l (-1)).length = layS ss l (decide (d ≤ 2)) wd ∧ (layS ss l (decide (d ≤ 2)) wd).length = (kidsOf l (-1)).length from ⟨sdJ_end, by rw [← sdJ_end, sdJ_len (Nat.le_refl _)]⟩)
  have HG0 := hid (sdJ_0 (ss := ss) (l := l) (rows := decide (d ≤ 2)) (len := wd))
  have HS0 := hid (stJ_0 (ss := ss) (l := l) (rows := decide (d ≤ 2)) (len := wd))
  have HKL := hid (show (ints (nz (kidsOf l (-1)))).length = (kidsOf l (-1)).length from by unfold ints nz; simp)
  have HRW := hid fun W : World => rowsR_any d wd W
  generalize decide (d ≤ 2) = rows at *
  obtain ⟨m, hm⟩ : ∃ m, m = (kidsOf l (-1)).length := ⟨_, rfl⟩
  obtain ⟨n, hnn⟩ : ∃ n, n = l.length := ⟨_, rfl⟩
  obtain ⟨N, hN⟩ : ∃ N, N = ss.length := ⟨_, rfl⟩
  rw [← hm] at HPO HST HGE hml HKL HKC
  rw [← hnn] at HSZ HSC HPO HC hw1 hn hml HKC ⊢
  rw [← hN] at HSZ HSC HC hw1 ⊢
  rw [HGE.out.2]
  have HW1 := hid hw1; have HB1 := hid hb1; have HZ1 := hid hz1
  clear hw1 hb1 rs rn hnn hN hm hz1 HRN HRS hp hsv hsl hdoc
  generalize ints (nz (kidsOf l (-1))) = KV at HPO HKC HKL
  generalize hgp : layS ss l rows wd = GP at HGE ⊢
  clear hgp
  go_enter Try.func62, Try.ntmps62
  go_upto_region 1 with (fail)
  simp only [Nat.add_assoc, Nat.reduceAdd]
  rw [← HW1.out]
  clear HW1
  obtain ⟨B0, hB0⟩ : ∃ B0, B0 = w.heap.size := ⟨_, rfl⟩
  obtain ⟨B1, hB1⟩ : ∃ B1, B1 = B0 + 1 := ⟨_, rfl⟩
  obtain ⟨B2, hB2⟩ : ∃ B2, B2 = B0 + 2 := ⟨_, rfl⟩
  rw [← hB0] at HC
  rw [← hB1, ← hB2] at HC
  rw [← hB0]
  try rw [← hB1]
  try rw [← hB2]
  have HB0 := hid hB0
  clear hB0 hB1 hB2
  have c2' := (HC.out w1 (Below.refl _ _)).c2
  go_upto_region 3 with (first | (go_at_call 66; refine HKC.out.mono ?_; rintro e w2 ⟨v2, rfl, ho2, hb2⟩; obtain ⟨A3, c3', rfl⟩ := own_slice ho2; have HO2 := hid (Reads.of_own ho2); have HB2 := hid hb2; clear ho2 hb2))
  clear c2'
  go_wp2_with fail
  go_loopw [7, 9, 10, 11] (fun v ln a jv wr => ∃ j : Nat, j ≤ m ∧ jv = .int .i64 j ∧ ln = .int .i64 (stJ ss l rows wd j).1 ∧ a = .int .i64 (stJ ss l rows wd j).2 ∧ Hid (wr.ownsRow w2.heap.size 115 2 v j (flatT (sdJ ss l rows wd j))) ∧ Hid (Below w2.heap.size w2 wr)) (fun _ _ _ jv _ => m - (intOf jv).toNat)
  case atStart => exact ⟨0, by omega, rfl, by rw [HS0.out], by rw [HS0.out], hid (by rw [HG0.out]; exact World.ownsRow_nil _ _ _ _), hid (Below.refl _ _)⟩
  case round =>
    obtain ⟨j, hj, rfl, rfl, rfl, hO, hB⟩ := hrel
    by_cases hjm : j < m
    · obtain ⟨k, hk, hkv, hlg, hsc, hsz, hgj, hsj, hfr⟩ := HPO.out j hjm
      obtain ⟨⟨b1, b2⟩, b3, b4⟩ := HST.out j hj
      obtain ⟨b5, o5, rfl, hb5, hc5⟩ := Reads.at0 HO2.out (by omega) (by rw [HKL.out]; omega)
      have HKV := hid ((hB.out.cell (p := ⟨b5, o5 + j, none⟩) hb5).trans (hc5 j _ hkv))
      have HK5 := hid (Nat.lt_of_lt_of_le hb5 hB.out.size)
      have HBR := hid (bnext0 HB2.out hB.out)
      have HA1 := hid fun (W : World) (h : Below w1.heap.size w1 W) => HSZ.out k hk W h
      have HA2 := hid fun (W : World) (h : Below w1.heap.size w1 W) => HSC.out k hk W h
      have hs1 := hsc.d0; have hs2 := hsc.d1; have hs3 := hsc.n0; have hs4 := hsc.nd
      have hz1 := hsz.p1; have hz2 := hsz.p2; have hz3 := hsz.b1; have hz4 := hsz.b2
      obtain ⟨ct, hct⟩ : ∃ ct, ct = stq wd (stJ ss l rows wd j) (gL ss l rows k) := ⟨_, rfl⟩
      rw [← hct] at hgj hsj
      have HGJ := hid hgj; have HSJ := hid hsj
      clear hgj hsj hc5 hkv hb5 hsc hsz
      generalize stJ ss l rows wd j = st at *
      generalize gL ss l rows k = x at *
      generalize gZ ss l rows k = z at *
      generalize gS ss l rows k = s at *
      generalize sdJ ss l rows wd j = GJ at *
      obtain ⟨ln, a⟩ := st
      obtain ⟨zw, zh⟩ := z
      simp only [] at b1 b2 b3 b4 hct hz1 hz2 hz3 hz4 hfr HA1 ⊢
      have hstq : ct = if 0 < a ∧ (whF wd).lt ((whF a).add x) then (ln + 1, 0) else (ln, a) := hct
      have HTW := hid fun W : World => timesR_any zw s hs1 (by omega) (by omega) (by omega) W
      have HTH := hid fun W : World => timesR_any zh s hs1 (by omega) (by omega) (by omega) W
      have HLG := hid hlg; have HSQ := hid hstq; have HFR := hid hfr
      clear hlg hstq hct hfr hs1 hs2 hs3 hs4
      have g0 : (j : Int) < (m : Int) := by omega
      -- the size
      have HBZ := hid fun y : BW wr.heap.size wr => (show Below w1.heap.size w1 y.val from HBR.out.trans (y.ok.mono HBR.out.size))
      have HZ := hid (below_class (wb := wr) (Nat.le_refl wr.heap.size) fun z => HA1.out z.val (HBZ.out z))
      have cz := fun z : BW wr.heap.size wr => HC.out z.val (HBZ.out z)
      have j0 := fun z => (cz z).c0; have j1 := fun z => (cz z).c1; have j2 := fun z => (cz z).c2; have j3 := fun z => (cz z).c3; have j4 := fun z => (cz z).c4
      have hkz := fun z : BW wr.heap.size wr => (z.ok.cell (p := ⟨b5, o5 + j, none⟩) HK5.out).trans HKV.out
      clear cz
      go_upto_region 7 with (fail)
      refine region_below (by kernel_rfl) (by kernel_rfl) (Below.refl wr.heap.size wr) ?_
      repeat (go_big_quiet_step (first | (go_at_call 65; with_reducible exact (HZ.out _))))
      refine wpQuiet_nil ?_
      intro _ hw'
      obtain ⟨u, rfl⟩ := hw'
      have HU := hid u.ok
      obtain ⟨w3, hw3⟩ : ∃ w3, w3 = u.val := ⟨_, rfl⟩
      rw [← hw3] at HU ⊢
      clear j0 j1 j2 j3 j4 hkz HZ HBZ hw3
      have HB3 := hid (show Below w1.heap.size w1 w3 from bnext0 HBR.out HU.out)
      have HKV3 := hid ((HU.out.cell (p := ⟨b5, o5 + j, none⟩) HK5.out).trans HKV.out)
      have HK53 := hid (Nat.lt_of_lt_of_le HK5.out HU.out.size)
      go_upto_region 8 with (fail)
      -- its length
      refine region_al1 90 [0, 1, 2, 3, 4, 5, 6, 7, 8, 9] 10 [11] 14 _ (.cells #[.int .i64 0, .int .i64 0] 52 (0, 0)) (w0 := w3) (by kernel_rfl) (by kernel_rfl) rfl (Below.refl _ _) rfl rfl Try.xalFrac14 ?_
      apply Exists.intro
      refine ⟨?hq, ?ht⟩
      case hq =>
        intro wb hwb
        have HWB := hid hwb
        have HBZ := hid fun y : BW wb.heap.size wb => (show Below w1.heap.size w1 y.val from bnext0 (bnext0 HB3.out HWB.out) y.ok)
        have HZ := hid (below_class (wb := wb) (Nat.le_refl wb.heap.size) fun z => HA2.out z.val (HBZ.out z))
        have HZT := hid (below_class (wb := wb) (Nat.le_refl wb.heap.size) fun z => HTW.out z.val)
        have cz := fun z : BW wb.heap.size wb => HC.out z.val (HBZ.out z)
        have j0 := fun z => (cz z).c0; have j1 := fun z => (cz z).c1; have j2 := fun z => (cz z).c2; have j3 := fun z => (cz z).c3; have j4 := fun z => (cz z).c4
        have hkz := fun z : BW wb.heap.size wb => (z.ok.cell (p := ⟨b5, o5 + j, none⟩) (Nat.lt_of_lt_of_le HK53.out HWB.out.size)).trans ((HWB.out.cell (p := ⟨b5, o5 + j, none⟩) HK53.out).trans HKV3.out)
        clear cz hwb
        simp only [List.map_cons, List.map_nil, List.getD_cons_zero, List.getD_cons_succ]
        repeat (go_big_quiet_step (first | (go_at_call 67; with_reducible exact (HZ.out _)) | (go_at_call 87; with_reducible exact (HZT.out _))))
        refine wpQuiet_nil ?_
        exact rfl
      case ht =>
        intro b14 w4 hp hz1 hb4
        simp only [List.map_cons, List.map_nil, List.getD_cons_zero, List.getD_cons_succ]
        have hy1 : FrB w4 b14 ⟨0, 0⟩ := hz1
        obtain ⟨⟨k1, k2⟩, ⟨k3, k4⟩, _⟩ := hy1.cells
        have HY1 := hid hy1
        have hq14 : wr.heap.size ≤ b14 := by have := HU.out.size; omega
        have HB4 := hid (HU.out.trans (Below.mono hb4 HU.out.size))
        clear hz1 hb4 hy1 hp
        go_upto_region 9 with (fail)
        obtain ⟨w5, hw5⟩ : ∃ w5, w5 = (w4.setCell ⟨b14, 0, none⟩ (.int .i64 (frR (zw * s.n) s.d).n)).setCell ⟨b14, 1, none⟩ (.int .i64 (frR (zw * s.n) s.d).d) := ⟨_, rfl⟩
        have hf5 : FrB w5 b14 (frR (zw * s.n) s.d) := by rw [hw5]; exact HY1.out.set
        have hb5 : Below wr.heap.size wr w5 := by rw [hw5]; exact (HB4.out.setCell hq14 _).setCell hq14 _
        rw [← hw5]
        have HF5 := hid hf5; have HB5 := hid hb5
        have HBR5 := hid (bnext0 HBR.out hb5)
        have HKV5 := hid ((hb5.cell (p := ⟨b5, o5 + j, none⟩) HK5.out).trans HKV.out)
        have HK55 := hid (Nat.lt_of_lt_of_le HK5.out hb5.size)
        clear hw5 hf5 hb5 k1 k2 k3 k4 HY1 HB4 HKV3 HK53 HB3 HU
        have hc := HC.out w5 HBR5.out
        have p3 := hc.c3; have p4 := hc.c4
        clear hc
        go_upto_if 46 with (first | (go_at_call 85; refine (HRW.out _).mono ?_; rintro e w6 ⟨rfl, hb6⟩; have HB6 := hid hb6; clear hb6))
        clear p3 p4
        go_cut [] (fun wx => Hid (FrB wx b14 x) ∧ Hid (Below wr.heap.size wr wx))
        case first =>
          cases rows with
          | true =>
            have HX := hid (show x = frR (zw * s.n) s.d from by have := HFR.out; rwa [if_pos rfl] at this)
            go_wp2_with fail
            go_meet
            exact ⟨by rw [HX.out]; exact hid (HF5.out.below HB6.out), hid (bnext0 HB5.out HB6.out)⟩
          | false =>
            have HX := hid (show x = frR (zh * s.n) s.d from by have := HFR.out; rwa [if_neg (by decide)] at this)
            have HB7 := hid (bnext0 HBR5.out HB6.out)
            go_upto_region 10 with (fail)
            refine region_perm 90 [0, 1, 2, 3, 4, 5, 6, 7, 8, 9] [10] (w0 := w6) (by kernel_rfl) (by kernel_rfl) rfl (Below.refl _ _) ?_
            apply Exists.intro
            refine ⟨?hq, ?ht⟩
            case hq =>
              intro wb hwb
              have HWB := hid hwb
              have HBZ := hid fun y : BW wb.heap.size wb => (show Below w1.heap.size w1 y.val from bnext0 (bnext0 HB7.out HWB.out) y.ok)
              have HZ := hid (below_class (wb := wb) (Nat.le_refl wb.heap.size) fun z => HA2.out z.val (HBZ.out z))
              have HZT := hid (below_class (wb := wb) (Nat.le_refl wb.heap.size) fun z => HTH.out z.val)
              have cz := fun z : BW wb.heap.size wb => HC.out z.val (HBZ.out z)
              have j0 := fun z => (cz z).c0; have j1 := fun z => (cz z).c1; have j2 := fun z => (cz z).c2; have j3 := fun z => (cz z).c3; have j4 := fun z => (cz z).c4
              have hkz := fun z : BW wb.heap.size wb => (z.ok.cell (p := ⟨b5, o5 + j, none⟩) (Nat.lt_of_lt_of_le (Nat.lt_of_lt_of_le HK55.out HB6.out.size) HWB.out.size)).trans ((HWB.out.cell (p := ⟨b5, o5 + j, none⟩) (Nat.lt_of_lt_of_le HK55.out HB6.out.size)).trans ((HB6.out.cell (p := ⟨b5, o5 + j, none⟩) HK55.out).trans HKV5.out))
              clear cz hwb
              simp only [List.map_cons, List.map_nil, List.getD_cons_zero, List.getD_cons_succ]
              repeat (go_big_quiet_step (first | (go_at_call 67; with_reducible exact (HZ.out _)) | (go_at_call 87; with_reducible exact (HZT.out _))))
              refine wpQuiet_nil ?_
              exact rfl
            case ht =>
              intro w7 hb7
              simp only [List.map_cons, List.map_nil, List.getD_cons_zero, List.getD_cons_succ]
              have HF7 := hid ((HF5.out.below HB6.out).below hb7)
              have HB8 := hid (bnext0 (bnext0 HB5.out HB6.out) hb7)
              obtain ⟨⟨k1, k2⟩, ⟨k3, k4⟩, _⟩ := HF7.out.cells
              clear hb7
              go_wp2_with fail
              go_meet
              exact ⟨by rw [HX.out]; exact hid HF7.out.set, hid ((HB8.out.setCell hq14 _).setCell hq14 _)⟩
        obtain ⟨HF8, HB8⟩ := hcut
        clear HF5 HB5 HBR5 HKV5 HK55 HB6 HFR HTW HTH HA1 HA2 HKV
        obtain ⟨w8, hw8⟩ : ∃ w8, w8 = wc := ⟨_, rfl⟩
        subst hw8
        obtain ⟨l2, a2⟩ := ct
        have hlg := HLG.out
        have hs1 := hlg.sum b3 (by omega)
        have hs2 := hlg.add_bd b3 (by omega)
        obtain ⟨C, hC⟩ : ∃ C, C = (decide (0 < a) && decide ((whF wd).lt ((whF a).add x))) := ⟨_, rfl⟩
        have hsq : (C = true → ln + 1 = l2 ∧ (0 : Int) = a2) ∧ (C = false → ln = l2 ∧ a = a2) := by
          have h := HSQ.out
          rw [hC]
          by_cases hq : 0 < a ∧ (whF wd).lt ((whF a).add x)
          · rw [if_pos hq] at h
            have h1 := congrArg Prod.fst h; have h2 := congrArg Prod.snd h
            simp only [] at h1 h2
            exact ⟨fun _ => ⟨h1.symm, h2.symm⟩, fun h3 => by simp [hq.1, hq.2] at h3⟩
          · rw [if_neg hq] at h
            have h1 := congrArg Prod.fst h; have h2 := congrArg Prod.snd h
            simp only [] at h1 h2
            exact ⟨fun h3 => absurd (by simpa using h3) hq, fun _ => ⟨h1.symm, h2.symm⟩⟩
        have HSQ1 := hid hsq.1; have HSQ2 := hid hsq.2
        have ha2 : 0 ≤ a2 ∧ a2 ≤ 31224 := by
          cases hc : C with
          | true => have := (hsq.1 hc).2; omega
          | false => have := (hsq.2 hc).2; omega
        have HWA := hid fun W : World => wholeR_any a W
        have HWL := hid fun W : World => wholeR_any wd W
        have HAD := hid fun W : World => addR_any (whF a) x hs1 W
        have HCM := hid fun W : World => lessR_any (whF wd) ((whF a).add x) (SumOk.swap ⟨hs2.1.1, by show (0 : Int) < 1; omega, by omega, by show (1 : Int) ≤ _; omega, by omega, by show wd.natAbs ≤ _; omega⟩) W
        have HCC := hid hC
        have hd1 := ha2.1; have hd2 := ha2.2
        clear hs1 hs2 hlg hsq HSQ hC ha2
        generalize (whF a).add x = y at *
        generalize whF a = fa at *
        generalize whF wd = fl at *
        generalize decide (fl.lt y) = lt at *
        go_upto_region 11 with (fail)
        go_cut [68] (fun s68 wx => s68 = .bool C ∧ Hid (FrB wx b14 x) ∧ Hid (Below wr.heap.size wr wx))
        case first =>
          have HZA := hid (below_class (wb := w8) (Nat.le_refl w8.heap.size) fun z => HWA.out z.val)
          have HZB := hid (below_class (wb := w8) (Nat.le_refl w8.heap.size) fun z => HWL.out z.val)
          have HZC := hid (below_class (wb := w8) (Nat.le_refl w8.heap.size) fun z => HAD.out z.val)
          have HZD := hid (below_class (wb := w8) (Nat.le_refl w8.heap.size) fun z => HCM.out z.val)
          have k1 := fun z : BW w8.heap.size w8 => (HF8.out.below z.ok).cells.1.1
          have k2 := fun z : BW w8.heap.size w8 => (HF8.out.below z.ok).cells.1.2
          have p4 := fun z : BW w8.heap.size w8 => (HC.out z.val (bnext0 (bnext0 HBR.out HB8.out) z.ok)).c4
          by_cases ha : 0 < a
          · have e1 : decide ((0 : Int) < a) = true := decide_eq_true ha
            have hr : C = lt := by rw [HCC.out, e1]; simp
            have HR := hid hr
            clear hr ha
            refine region_below (by kernel_rfl) (by kernel_rfl) (Below.refl w8.heap.size w8) ?_
            repeat (go_big_quiet_step (first | (go_at_call 84; with_reducible exact (HZA.out _)) | (go_at_call 84; with_reducible exact (HZB.out _)) | (go_at_call 56; with_reducible exact (HZC.out _)) | (go_at_call 57; with_reducible exact (HZD.out _))))
            refine wpQuiet_nil ?_
            intro _ hw'
            obtain ⟨y, rfl⟩ := hw'
            have HFY := hid (HF8.out.below y.ok)
            have HBY := hid (bnext0 HB8.out y.ok)
            clear k1 k2 p4
            go_wp2_with fail
            go_meet
            exact ⟨congrArg Value.bool (HR.out.symm), HFY, HBY⟩
          · have e1 : decide ((0 : Int) < a) = false := decide_eq_false ha
            have hr : C = false := by rw [HCC.out, e1]; simp
            have HR := hid hr
            clear hr ha
            refine region_below (by kernel_rfl) (by kernel_rfl) (Below.refl w8.heap.size w8) ?_
            repeat (go_big_quiet_step (fail))
            refine wpQuiet_nil ?_
            intro _ hw'
            obtain ⟨y, rfl⟩ := hw'
            have HFY := hid (HF8.out.below y.ok)
            have HBY := hid (bnext0 HB8.out y.ok)
            clear k1 k2 p4
            go_wp2_with fail
            go_meet
            exact ⟨congrArg Value.bool (HR.out.symm), HFY, HBY⟩
        obtain ⟨rfl, HF9, HB9⟩ := hcut
        clear HF8 HB8 HWA HWL HAD HCM HCC
        obtain ⟨w9, hw9⟩ : ∃ w9, w9 = wc := ⟨_, rfl⟩
        subst hw9
        go_upto_if 68 with (fail)
        go_cut [9, 10] (fun s9 s10 wx => s9 = .int .i64 l2 ∧ s10 = .int .i64 a2 ∧ w9 = wx)
        case first =>
          cases C with
          | true =>
            have HX := hid (HSQ1.out rfl)
            go_wp2_with fail
            go_meet
            exact ⟨by rw [← HX.out.1], by rw [← HX.out.2], rfl⟩
          | false =>
            have HX := hid (HSQ2.out rfl)
            go_wp2_with fail
            go_meet
            exact ⟨by rw [HX.out.1], by rw [HX.out.2], rfl⟩
        obtain ⟨rfl, rfl, rfl⟩ := hcut
        clear HSQ1 HSQ2
        have HO9 := hid fun (X : Obj) => own_keep hO.out (HB9.out.alloc HB9.out.size X)
        have HBB := hid fun (X : Obj) => bnext0 hB.out (HB9.out.alloc HB9.out.size X)
        have hne : some b14 ≠ u7.ownBlock := fun e => by have := (hO.out.lt b14 e.symm).2; omega
        have HNE := hid hne
        have HGN := hid (show flatT GJ ++ [.int .i64 l2, .int .i64 a2] = flatT (sdJ ss l rows wd (j + 1)) from by rw [HGJ.out, flatT_app, flatT_one]; rfl)
        have hn1 := HLG.out.n1; have hn2 := HLG.out.ok.d0; have hn3 := HLG.out.d1
        have hcl := (ceil_bd HLG.out.ok)
        have hcd := ceil_doc (n := x.n) hn2
        have hce : ceilF ⟨x.n, x.d⟩ = ceilF x := rfl
        rw [hce] at hcd
        have hc1 := hcl.1; have hc2 := hcl.2.1
        have m1 := hn1.1; have m2 := hn1.2
        clear hne hcl hn1 hce
        have HCD := hid hcd
        clear hcd
        go_upto_region 15 with (first | (at_builtin; go_loud (refine app_elemF rfl (.tmp 71) (.tmp 75) Try.underStands Try.infoStand rfl (by decide) (by decide) rfl w2.heap.size _ j (flatT GJ) rfl (HO9.out _) ⟨w9.heap.size, 0, none⟩ [.int .i64 l2, .int .i64 a2] rfl rfl (fun q u h => by rw [Addr.add_lit]; exact cell_here rfl (by simpa using h)) (fun u hu => by simp at hu; rcases hu with rfl | rfl <;> rfl) (by omega) (HBB.out _).size ?_); intro v7 w10 ho10 hg10 hf10; rw [HGN.out] at ho10; have HO10 := hid ho10; have HX10 := hid (below_app (B' := w2.heap.size) (HBB.out _) (HO9.out _) hg10 (Nat.le_refl _) (HBB.out _).size); have HF10 := hid (show FrB w10 b14 x from (hg10.block b14 (by have := lt_of_block HF9.out; simp; omega) HNE.out).trans (old_blk HF9.out)); clear ho10 hg10 hf10))
        obtain ⟨⟨k1, k2⟩, _, _⟩ := HF10.out.cells
        obtain ⟨xn, xd⟩ := x
        simp only [] at k1 k2 HCD hn2 hn3 m1 m2
        go_wp2_with fail
        go_roundw
        case rel => exact ⟨j + 1, by omega, by go_num, by rw [HSJ.out]; rfl, by rw [HSJ.out, HCD.out]; show _ = Value.int .i64 (a2 + 24 + ceilF ⟨xn, xd⟩); generalize ceilF ⟨xn, xd⟩ = q at hc1 hc2 ⊢; rw [Go.IntWalk.wrap64_in (a2 + q) (by omega), Go.IntWalk.wrap64_in (a2 + q + 24) (by omega)]; refine congrArg _ ?_; omega, HO10, HX10⟩
        case measure => simp [intOf]; omega
    · obtain rfl : j = m := by omega
      have g0 : decide ((j : Int) < (j : Int)) = false := by simp
      have HOE := hid (show wr.ownsRow w2.heap.size 115 2 u7 j (flatT GP) from by have h := hO.out; rw [HGE.out.1] at h; exact h)
      clear hO
      go_wp2_with fail
      go_ret
      exact ⟨u7, rfl, own_down HOE.out (by have := HZ1.out; have := HB2.out.size; omega), HB1.out.trans (Below.mono (bnext0 HB2.out hB.out) HB1.out.size)⟩
end Go.Proofs.Ytfkcpcdndleboaa

/- WALK: the document's Check of a page, both (printed by gen_bothr.py). -/
namespace Go.Proofs.Ytfkcpcdndleboaa
open Go.RowKit
set_option maxRecDepth 100000 in
set_option maxHeartbeats 2000000 in
theorem pageCheckR_any (d wd : Int) (w : World) :
    Calls Try.prog 19 #[.agg #[.int .i64 d, .int .i64 wd]] w fun e w' => e = .returned (.int .i64 (pageE d wd)) ∧ Below w.heap.size w w' := by
  by_cases h1 : d < 1
  · have HX : Hid (pageE d wd = 40) := hid (if_neg (by omega))
    have e1 : decide (d < 1) = true := decide_eq_true h1
    clear h1
    go_enter Try.func19, Try.ntmps19
    go_wp2_with fail
    go_ret
    exact ⟨by rw [HX.out]; rfl, (Below.refl _ _).alloc (Nat.le_refl _) _⟩
  · have e1 : decide (d < 1) = false := decide_eq_false h1
    by_cases h2 : 4 < d
    · have HX : Hid (pageE d wd = 40) := hid (if_neg (by omega))
      have e2 : decide (4 < d) = true := decide_eq_true h2
      clear h1 h2
      go_enter Try.func19, Try.ntmps19
      go_wp2_with fail
      go_ret
      exact ⟨by rw [HX.out]; rfl, (Below.refl _ _).alloc (Nat.le_refl _) _⟩
    · have e2 : decide (4 < d) = false := decide_eq_false h2
      by_cases h3 : wd < 48
      · have HX : Hid (pageE d wd = 40) := hid (if_neg (by omega))
        have e3 : decide (wd < 48) = true := decide_eq_true h3
        clear h1 h2 h3
        go_enter Try.func19, Try.ntmps19
        go_wp2_with fail
        go_ret
        exact ⟨by rw [HX.out]; rfl, (Below.refl _ _).alloc (Nat.le_refl _) _⟩
      · have e3 : decide (wd < 48) = false := decide_eq_false h3
        by_cases h4 : 4800 < wd
        · have HX : Hid (pageE d wd = 40) := hid (if_neg (by omega))
          have e4 : decide (4800 < wd) = true := decide_eq_true h4
          clear h1 h2 h3 h4
          go_enter Try.func19, Try.ntmps19
          go_wp2_with fail
          go_ret
          exact ⟨by rw [HX.out]; rfl, (Below.refl _ _).alloc (Nat.le_refl _) _⟩
        · have HX : Hid (pageE d wd = 0) := hid (if_pos (by omega))
          have e4 : decide (4800 < wd) = false := decide_eq_false h4
          clear h1 h2 h3 h4
          go_enter Try.func19, Try.ntmps19
          go_wp2_with fail
          go_ret
          exact ⟨by rw [HX.out]; rfl, (Below.refl _ _).alloc (Nat.le_refl _) _⟩
set_option maxRecDepth 100000 in
set_option maxHeartbeats 2000000 in
theorem both_any (P : Int) (ss : List Sg) (l : List Nd) (hN : ss.length ≤ 1000000) (hv : ∀ s ∈ ss, s.vals.length ≤ 1000000) (hn : l.length ≤ 1000000) (d wd : Int) (A A2 : Option Addr) (c c2 : Nat) (w : World) (rs : Sgs w w.heap.size A ss) (rn : Nds w w.heap.size A2 l) :
    Calls Try.prog 49 #[.agg #[.int .i64 P, .slice A ss.length c], .agg #[.slice A2 l.length c2], .agg #[.int .i64 d, .int .i64 wd]] w fun e w' => e = .returned (.int .i64 (begE P ss l d wd)) ∧ Below w.heap.size w w' := by
  obtain ⟨w1, hw1⟩ : ∃ w1, w1 = ((w.alloc (.cells #[.int .i64 P, .slice A ss.length c] 24)).alloc (.cells #[.slice A2 l.length c2] 27)).alloc (.cells #[.int .i64 d, .int .i64 wd] 31) := ⟨_, rfl⟩
  have hb1 : Below w.heap.size w w1 := by rw [hw1]; exact (((Below.refl _ _).alloc (Nat.le_refl _) _).alloc (by simp) _).alloc (by simp; omega) _
  have hz1 : w1.heap.size = w.heap.size + 3 := by rw [hw1]; simp
  have hdoc : DocB w1 w.heap.size P (.slice A ss.length c) (.slice A2 l.length c2) d wd := by rw [hw1]; exact DocB.new _ _ _ _ _ _
  have HC := hid fun (W : World) (h : Below w1.heap.size w1 W) => (hdoc.below h (by omega)).cells
  have HCK := hid (refCheck_any P ss l hN hv hn A A2 c c2 w1 ((rs.below hb1).more hb1.size) ((rn.below hb1).more hb1.size))
  have HPC := hid fun W : World => pageCheckR_any d wd W
  have hbe : begE P ss l d wd = if chkE P ss l = 0 then pageE d wd else chkE P ss l := rfl
  have hx0 : chkE P ss l = 0 → begE P ss l d wd = pageE d wd := fun h => hbe.trans (if_pos h)
  have hx1 : chkE P ss l ≠ 0 → begE P ss l d wd = chkE P ss l := fun h => hbe.trans (if_neg h)
  clear hbe
  generalize begE P ss l d wd = BE at *
  generalize chkE P ss l = CE at *
  generalize pageE d wd = PE at *
  generalize ss.length = N at *
  generalize l.length = n at *
  have HX0 := hid hx0; have HX1 := hid hx1
  have HW1 := hid hw1; have HB1 := hid hb1
  clear hx0 hx1 hw1 hb1 rs rn hv hdoc hz1
  go_enter Try.func49, Try.ntmps49
  go_upto_region 1 with (fail)
  simp only [Nat.add_assoc, Nat.reduceAdd]
  rw [← HW1.out]
  clear HW1
  obtain ⟨B0, hB0⟩ : ∃ B0, B0 = w.heap.size := ⟨_, rfl⟩
  obtain ⟨B1, hB1⟩ : ∃ B1, B1 = B0 + 1 := ⟨_, rfl⟩
  obtain ⟨B2, hB2⟩ : ∃ B2, B2 = B0 + 2 := ⟨_, rfl⟩
  rw [← hB0] at HC
  rw [← hB1, ← hB2] at HC
  rw [← hB0]
  try rw [← hB1]
  try rw [← hB2]
  clear hB0 hB1 hB2
  have hc := HC.out w1 (Below.refl _ _)
  have p0 := hc.c0; have p1 := hc.c1; have p2 := hc.c2
  clear hc
  by_cases h0 : CE = 0
  · have HX := hid (HX0.out h0)
    clear HX0 HX1
    subst h0
    go_wp2_with (first | (go_at_call 18; refine HCK.out.mono ?_; rintro e w2 ⟨rfl, hb2⟩; have HB2 := hid hb2; have hc := HC.out w2 hb2; have p3 := hc.c3; have p4 := hc.c4; clear hc hb2 p0 p1 p2) | (go_at_call 19; refine (HPC.out _).mono ?_; rintro e w3 ⟨rfl, hb3⟩; have HB3 := hid (bnext0 HB2.out hb3); clear hb3))
    go_ret
    exact ⟨by rw [HX.out]; rfl, HB1.out.trans (HB3.out.mono HB1.out.size)⟩
  · have HX := hid (HX1.out h0)
    clear HX0 HX1
    have e0 : (CE != 0) = true := by simpa using h0
    clear h0
    go_wp2_with (first | (go_at_call 18; refine HCK.out.mono ?_; rintro e w2 ⟨rfl, hb2⟩; have HB2 := hid hb2; clear hb2 p0 p1 p2))
    go_ret
    exact ⟨by rw [HX.out]; rfl, HB1.out.trans (HB2.out.mono HB1.out.size)⟩
end Go.Proofs.Ytfkcpcdndleboaa
