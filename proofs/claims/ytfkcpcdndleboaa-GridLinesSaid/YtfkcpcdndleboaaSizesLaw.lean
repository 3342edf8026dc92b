/- WALK: the law GridSizes (printed by gen_l_sizes.py). -/
import Derived.Test.YtfkcpcdndleboaaArgsD
import Derived.Test.YtfkcpcdndleboaaNatP
import Derived.Test.YtfkcpcdndleboaaLayE
import Derived.Test.YtfkcpcdndleboaaNumV
namespace Go.Proofs.Ytfkcpcdndleboaa
open Go.RowKit
theorem Copies.below {ss : List Sg} {l : List Nd} {ss' : List Sg} {A3 A4 : Option Addr} {c3 c4 : Nat} {W W' : World} (h : Copies ss l ss' A3 A4 c3 c4 W) (hb : Below W.heap.size W W') : Copies ss l ss' A3 A4 c3 c4 W' := ⟨(h.sg.below hb).more hb.size, h.core, h.cap, rdn h.nd hb, h.room⟩
theorem bst2 {w w' : World} (h : Below w.heap.size w w') {b : Nat} (hb : w.heap.size ≤ b) (u v : Value) : Below w.heap.size w ((w'.setCell ⟨b, 0, none⟩ u).setCell ⟨b, 1, none⟩ v) := (h.setCell hb u).setCell hb v
theorem bal {w w' : World} (h : Below w.heap.size w w') (o : Obj) : Below w.heap.size w (w'.alloc o) := h.alloc h.size o
set_option maxRecDepth 100000 in
set_option maxHeartbeats 8000000 in
theorem sizes_law (P : Int) (ss : List Sg) (l : List Nd) (d wd nu : Int) (A A2 : Option Addr) (c c2 : Nat) (hl : ss.length ≤ 9223372036854775807) (hv : ∀ s ∈ ss, s.vals.length ≤ 9223372036854775807) (w : World) (rs : Sgs w w.heap.size A ss) (rn : Nds w w.heap.size A2 l) :
    Calls Try.prog 7 #[.agg #[.int .i64 P, .slice A ss.length c, .slice A2 l.length c2], .agg #[.int .i64 d, .int .i64 wd], .int .i64 nu] w fun e w' => e = .returned (.bool true) ∧ Below w.heap.size w w' := by
  obtain ⟨r1, hr1⟩ : ∃ x : Bool, (x = true ↔ BigP ss l) := by
    by_cases h : BigP ss l
    · exact ⟨true, iff_of_true rfl h⟩
    · exact ⟨false, iff_of_false (by simp) h⟩
  have hsm := fun h : ¬ BigP ss l => small_of h
  obtain ⟨w1, hw1⟩ : ∃ w1, w1 = (w.alloc (.cells #[.int .i64 P, .slice A ss.length c, .slice A2 l.length c2] 29)).alloc (.cells #[.int .i64 d, .int .i64 wd] 31) := ⟨_, rfl⟩
  have hb1 : Below w.heap.size w w1 := by rw [hw1]; exact ((Below.refl _ _).alloc (Nat.le_refl _) _).alloc (by simp) _
  have hz1 : w1.heap.size = w.heap.size + 2 := by rw [hw1]; simp
  have g0 : w1.heap[w.heap.size]? = some (.cells #[.int .i64 P, .slice A ss.length c, .slice A2 l.length c2] 29 (0, 0)) := by rw [hw1]; exact old_blk (nw_blk rfl)
  have g1 : w1.heap[w.heap.size + 1]? = some (.cells #[.int .i64 d, .int .i64 wd] 31 (0, 0)) := by rw [hw1]; exact nw_blk (by simp)
  have HC := hid fun (W : World) (h : Below w1.heap.size w1 W) => (show (W.cell? ⟨w.heap.size, 0, none⟩ = some (.int .i64 P) ∧ W.cell? ⟨w.heap.size, 1, none⟩ = some (.slice A ss.length c) ∧ W.cell? ⟨w.heap.size, 2, none⟩ = some (.slice A2 l.length c2)) ∧ W.cell? ⟨w.heap.size + 1, 0, none⟩ = some (.int .i64 d) ∧ W.cell? ⟨w.heap.size + 1, 1, none⟩ = some (.int .i64 wd) from by
    have e0 := (h.block _ (by omega)).trans g0
    have e1 := (h.block _ (by omega)).trans g1
    refine ⟨⟨?_, ?_, ?_⟩, ?_, ?_⟩ <;> simp [World.cell?, e0, e1])
  have HBG := hid ((bigP_any P ss l A A2 c c2 hl hv w1 ((rs.below hb1).more hb1.size)).mono fun e w' hb => hb.get hr1)
  have HRS := hid fun (W : World) (h : Below w1.heap.size w1 W) => (show Sgs W W.heap.size A ss from (rs.below (hb1.trans (h.mono hb1.size))).more (Nat.le_trans hb1.size h.size))
  have HRN := hid fun (W : World) (h : Below w1.heap.size w1 W) => (show Nds W W.heap.size A2 l from (rn.below (hb1.trans (h.mono hb1.size))).more (Nat.le_trans hb1.size h.size))
  have HWK := hid fun (W : World) => works_any W
  have HK1 := hid fun (W : World) => pageCheck_any d wd W
  have HK2 := hid fun (W : World) => pageCheckR_any d wd W
  have HN1 := hid fun (s1 : ss.length ≤ 30) (s2 : l.length ≤ 210) (s3 : ∀ s ∈ ss, s.vals.length ≤ 20) (ss' : List Sg) (A3 A4 : Option Addr) (c3 c4 : Nat) (W : World) (hp : Copies ss l ss' A3 A4 c3 c4 W) => (show Calls Try.prog 31 #[.agg #[.int .i64 P, .slice A3 ss'.length c3], .agg #[.slice A4 l.length c4], .agg #[.int .i64 d, .int .i64 wd], .int .i64 nu] W fun e w' => e = .returned (.tuple #[.int .i64 (natV P ss l d wd nu).1.1, .int .i64 (natV P ss l d wd nu).1.2, .int .i64 (natV P ss l d wd nu).2]) ∧ Below W.heap.size W w' from by
    have := Natural_any P ss' l (by rw [hp.len]; omega) (hp.vals s3) (by omega) d wd nu A3 A4 c3 c4 hp.room W hp.sg hp.nd
    rwa [natV_core hp.core] at this)
  have HN2 := hid fun (s1 : ss.length ≤ 30) (s2 : l.length ≤ 210) (s3 : ∀ s ∈ ss, s.vals.length ≤ 20) (W : World) (h : Below w1.heap.size w1 W) => NaturalN_any P ss l (by omega) (fun s hs => by have := s3 s hs; omega) (by omega) d wd nu A A2 c c2 W (HRS.out W h) (HRN.out W h)
  have HS1 := hid fun (s1 : ss.length ≤ 30) (s2 : l.length ≤ 210) (s3 : ∀ s ∈ ss, s.vals.length ≤ 20) (ss' : List Sg) (A3 A4 : Option Addr) (c3 c4 : Nat) (W : World) (hp : Copies ss l ss' A3 A4 c3 c4 W) => (show Calls Try.prog 33 #[.agg #[.int .i64 P, .slice A3 ss'.length c3], .agg #[.slice A4 l.length c4], .agg #[.int .i64 d, .int .i64 wd], .int .i64 nu] W fun e w' => e = .returned (.tuple #[.agg #[.int .i64 (sclV P ss l d wd nu).1.n, .int .i64 (sclV P ss l d wd nu).1.d], .int .i64 (sclV P ss l d wd nu).2]) ∧ Below W.heap.size W w' from by
    have := Scale_any P ss' l (by rw [hp.len]; omega) (hp.vals s3) (by omega) d wd nu A3 A4 c3 c4 W hp.sg hp.nd
    rwa [sclV_core hp.core] at this)
  have HS2 := hid fun (s1 : ss.length ≤ 30) (s2 : l.length ≤ 210) (s3 : ∀ s ∈ ss, s.vals.length ≤ 20) (W : World) (h : Below w1.heap.size w1 W) => ScaleN_any P ss l (by omega) (fun s hs => by have := s3 s hs; omega) (by omega) d wd nu A A2 c c2 W (HRS.out W h) (HRN.out W h)
  have HLI := hid fun (s1 : ss.length ≤ 30) (s3 : ∀ s ∈ ss, s.vals.length ≤ 20) (W : World) (h : Below w1.heap.size w1 W) => list_at (P := P) (c := c) (V := .slice A2 l.length c2) s1 s3 hb1 rs W h
  have HTX := hid fun (s2 : l.length ≤ 210) (W : World) (h : Below w1.heap.size w1 W) => text_at (P := P) (A := A) (N := ss.length) (c := c) (c2 := c2) s2 hb1 rn W h
  generalize natV P ss l d wd nu = V at *
  generalize sclV P ss l d wd nu = S at *
  have HW1 := hid hw1; have HB1 := hid hb1; have HSM := hid hsm; have HR1 := hid hr1
  clear hw1 rs rn hsm hr1 hv hl hb1 HRS HRN g0 g1
  go_enter Try.func7, Try.ntmps7
  go_upto_region 1 with (fail)
  rw [← HW1.out]
  clear HW1
  obtain ⟨B0, hB0⟩ : ∃ B0, B0 = w.heap.size := ⟨_, rfl⟩
  obtain ⟨B1, hB1⟩ : ∃ B1, B1 = B0 + 1 := ⟨_, rfl⟩
  rw [← hB0] at HC
  rw [← hB1] at HC
  rw [← hB0]
  try rw [← hB1]
  clear hB0 hB1 hz1
  obtain ⟨⟨c0, c1, c2'⟩, c3, c4⟩ := HC.out w1 (Below.refl _ _)
  cases r1 with
  | true =>
    go_wp2_with (first | (go_at_call 10; refine HBG.out.mono ?_; rintro e w2 ⟨rfl, hb2⟩; have HB2 := hid hb2; clear hb2 c0 c1 c2' c3 c4) | (go_at_call 11; refine (HWK.out _).mono ?_; rintro e w3 ⟨rfl, hb3⟩; have HB3 := hid (bnext HB2.out hb3); clear hb3))
    go_ret
    exact ⟨rfl, HB1.out.trans (HB3.out.mono HB1.out.size)⟩
  | false =>
    obtain ⟨s1, s2, s3⟩ := HSM.out (fun h => by have := HR1.out.2 h; cases this)
    replace HLI := hid (HLI.out s1 s3); replace HTX := hid (HTX.out s2)
    replace HN1 := hid (HN1.out s1 s2 s3); replace HN2 := hid (HN2.out s1 s2 s3); replace HS1 := hid (HS1.out s1 s2 s3); replace HS2 := hid (HS2.out s1 s2 s3)
    clear HSM HR1
    obtain ⟨N, hN⟩ : ∃ N, N = ss.length := ⟨_, rfl⟩
    obtain ⟨n, hn⟩ : ∃ n, n = l.length := ⟨_, rfl⟩
    have HNl := hid hn
    rw [← hN] at c1 HC HBG HLI HTX HN2 HS2 ⊢
    rw [← hn] at c2' HC HBG HLI HTX HN1 HN2 HS1 HS2 ⊢
    clear hN hn s1 s2 s3
    go_upto_region 3 with (first | (go_at_call 10; refine HBG.out.mono ?_; rintro e w2 ⟨rfl, hb2⟩; have HB2 := hid hb2; clear hb2 c0 c1 c2' c3 c4))
    obtain ⟨⟨q0, q1, q2⟩, q3, q4⟩ := HC.out w2 HB2.out
    go_region_held3 (fun w' => (w'.cell? ⟨B0, 0, none⟩ = some (.int .i64 P) ∧ w'.cell? ⟨B0, 1, none⟩ = some (.slice A N c) ∧ w'.cell? ⟨B0, 2, none⟩ = some (.slice A2 n c2)) ∧ w'.cell? ⟨B1, 0, none⟩ = some (.int .i64 d) ∧ w'.cell? ⟨B1, 1, none⟩ = some (.int .i64 wd)) (first | exact ⟨⟨q0, q1, q2⟩, q3, q4⟩ | exact HC.out _ HB30.out | exact HC.out _ HB31.out | exact HC.out _ HB32.out | fail) (first | (go_at_call 14; refine (HLI.out _ (by first | exact HB2.out.drew | exact HB2.out)).mono ?_; rintro e w30 ⟨A30, c30, ss30, rfl, hl30, hb30⟩; have HL30 := hid hl30; have HB30 := hid (bnext (by first | exact HB2.out.drew | exact HB2.out) hb30); clear hl30 hb30) | (go_at_call 12; refine (HTX.out _ HB30.out).mono ?_; rintro e w31 ⟨A31, c31, rfl, ho31, hb31⟩; have HP31 := hid (Copies.mk' (c4 := c31) HL30.out hb31 (by rw [← HNl.out]; exact ho31)); have HB31 := hid (bnext HB30.out hb31); clear ho31 hb31) | (go_at_call 31; refine (HN1.out _ _ _ _ _ _ HP31.out).mono ?_; rintro e w32 ⟨rfl, hb32⟩; have HB32 := hid (bnext HB31.out hb32); clear hb32))
    clear q0 q1 q2 q3 q4
    obtain ⟨⟨q0, q1, q2⟩, q3, q4⟩ := HC.out w32 HB32.out
    go_upto_region 5 with (first | (go_at_call 32; refine (HN2.out _ HB32.out).mono ?_; rintro e w4 ⟨rfl, hb4⟩; have HB4 := hid (bnext HB32.out hb4); clear hb4))
    clear q0 q1 q2 q3 q4 HN1 HN2 HP31 HL30 HB30 HB31
    go_cut [13, 14] (fun s13 s14 wx => ∃ b : Nat, s13 = .pointer (some ⟨b, 0, none⟩) ∧ s14 = .int .i64 S.2 ∧ Hid (FrB wx b S.1) ∧ Hid (Below w4.heap.size w4 wx))
    case first =>
      obtain ⟨⟨q0, q1, q2⟩, q3, q4⟩ := HC.out w4 HB4.out
      go_region_held3 (fun w' => (w'.cell? ⟨B0, 0, none⟩ = some (.int .i64 P) ∧ w'.cell? ⟨B0, 1, none⟩ = some (.slice A N c) ∧ w'.cell? ⟨B0, 2, none⟩ = some (.slice A2 n c2)) ∧ w'.cell? ⟨B1, 0, none⟩ = some (.int .i64 d) ∧ w'.cell? ⟨B1, 1, none⟩ = some (.int .i64 wd)) (first | exact ⟨⟨q0, q1, q2⟩, q3, q4⟩ | exact HC.out _ (bnext HB4.out (by first | exact bst2 HX52.out HX51.out.size _ _ | exact bst2 HX52.out HX50.out.size _ _ | exact bst2 HX52.out (Nat.le_refl _) _ _ | exact HX52.out | exact bal HX52.out _ | exact HX51.out | exact bal HX51.out _ | exact HX50.out | exact bal HX50.out _ | exact (Below.refl _ _).drew | exact bal (Below.refl _ _).drew _ | exact (bal (Below.refl _ _) _).drew | exact Below.refl _ _ | exact bal (Below.refl _ _) _)) | fail) (first | (go_at_call 14; refine (HLI.out _ (bnext HB4.out (by first | exact HX52.out | exact bal HX52.out _ | exact HX51.out | exact bal HX51.out _ | exact HX50.out | exact bal HX50.out _ | exact (Below.refl _ _).drew | exact bal (Below.refl _ _).drew _ | exact (bal (Below.refl _ _) _).drew | exact Below.refl _ _ | exact bal (Below.refl _ _) _))).mono ?_; rintro e w50 ⟨A50, c50, ss50, rfl, hl50, hb50⟩; have HL50 := hid hl50; have HX50 := hid (show Below w4.heap.size w4 w50 from bnext (by first | exact HX52.out | exact bal HX52.out _ | exact HX51.out | exact bal HX51.out _ | exact HX50.out | exact bal HX50.out _ | exact (Below.refl _ _).drew | exact bal (Below.refl _ _).drew _ | exact (bal (Below.refl _ _) _).drew | exact Below.refl _ _ | exact bal (Below.refl _ _) _) hb50); (first | (have bf := hid (FrB.below bf.out hb50); skip) | (have bf := hid (FrB.below (FrB.new (f := ⟨0, 0⟩) (W := w4) (n := w4.heap.size) rfl) hb50)) | (have bf := hid (FrB.below (FrB.new (f := ⟨0, 0⟩) (W := w4.drew) (n := w4.heap.size) rfl) hb50)) | skip); clear hl50 hb50) | (go_at_call 12; refine (HTX.out _ (bnext HB4.out (by first | exact HX52.out | exact bal HX52.out _ | exact HX51.out | exact bal HX51.out _ | exact HX50.out | exact bal HX50.out _ | exact (Below.refl _ _).drew | exact bal (Below.refl _ _).drew _ | exact (bal (Below.refl _ _) _).drew | exact Below.refl _ _ | exact bal (Below.refl _ _) _))).mono ?_; rintro e w51 ⟨A51, c51, rfl, ho51, hb51⟩; have HP51 := hid (Copies.mk' (c4 := c51) HL50.out (bnext (by first | exact Below.refl _ _ | exact bal (Below.refl _ _) _) hb51) (by rw [← HNl.out]; exact ho51)); have HX51 := hid (show Below w4.heap.size w4 w51 from bnext (by first | exact HX52.out | exact bal HX52.out _ | exact HX51.out | exact bal HX51.out _ | exact HX50.out | exact bal HX50.out _ | exact (Below.refl _ _).drew | exact bal (Below.refl _ _).drew _ | exact (bal (Below.refl _ _) _).drew | exact Below.refl _ _ | exact bal (Below.refl _ _) _) hb51); (first | (have bf := hid (FrB.below bf.out hb51); skip) | (have bf := hid (FrB.below (FrB.new (f := ⟨0, 0⟩) (W := w50) (n := w50.heap.size) rfl) hb51)) | (have bf := hid (FrB.below (FrB.new (f := ⟨0, 0⟩) (W := w50.drew) (n := w50.heap.size) rfl) hb51)) | skip); clear ho51 hb51) | (go_at_call 33; refine (HS1.out _ _ _ _ _ _ (HP51.out.below (by first | exact Below.refl _ _ | exact bal (Below.refl _ _) _))).mono ?_; rintro e w52 ⟨rfl, hb52⟩; have HX52 := hid (show Below w4.heap.size w4 w52 from bnext (by first | exact HX52.out | exact bal HX52.out _ | exact HX51.out | exact bal HX51.out _ | exact HX50.out | exact bal HX50.out _ | exact (Below.refl _ _).drew | exact bal (Below.refl _ _).drew _ | exact (bal (Below.refl _ _) _).drew | exact Below.refl _ _ | exact bal (Below.refl _ _) _) hb52); (first | (have bf := hid (FrB.below bf.out hb52); skip) | (have bf := hid (FrB.below (FrB.new (f := ⟨0, 0⟩) (W := w51) (n := w51.heap.size) rfl) hb52)) | (have bf := hid (FrB.below (FrB.new (f := ⟨0, 0⟩) (W := w51.drew) (n := w51.heap.size) rfl) hb52)) | skip); (first | (obtain ⟨⟨k1, k2⟩, ⟨k3, k4⟩, k5⟩ := bf.out.cells) | skip); clear hb52))
      all_goals
        go_wp2_with fail
        go_meet
        first
          | exact ⟨_, rfl, rfl, hid (FrB.set bf.out), hid (by first | exact bst2 HX52.out HX51.out.size _ _ | exact bst2 HX52.out HX50.out.size _ _ | exact bst2 HX52.out (Nat.le_refl _) _ _)⟩
          | exact ⟨_, rfl, rfl, hid (FrB.new rfl), hid (bal HX52.out _)⟩
    obtain ⟨b13, rfl, rfl, HF5, HX5⟩ := hcut
    obtain ⟨w5, rfl⟩ : ∃ W, W = wc := ⟨_, rfl⟩
    have HB5 := hid (bnext HB4.out HX5.out)
    clear HX5 HS1 HLI HTX
    obtain ⟨⟨q0, q1, q2⟩, q3, q4⟩ := HC.out w5 HB5.out
    go_upto_region 7 with (first | (go_at_call 34; refine (HS2.out _ HB5.out).mono ?_; rintro e w6 ⟨rfl, hb6⟩; have HB6 := hid (bnext HB5.out hb6); have HF6 := hid (HF5.out.below hb6); clear hb6))
    clear q0 q1 q2 q3 q4 HF5 HS2
    obtain ⟨w7, hw7⟩ : ∃ w7, w7 = w6.alloc (.cells #[.int .i64 S.1.n, .int .i64 S.1.d] 52) := ⟨_, rfl⟩
    obtain ⟨b15, hb15⟩ : ∃ b15, b15 = w6.heap.size := ⟨_, rfl⟩
    have HFA := hid (show FrB w7 b13 S.1 from by rw [hw7]; exact old_blk HF6.out)
    have HFB := hid (show FrB w7 b15 S.1 from by rw [hw7, hb15]; exact FrB.new rfl)
    have HB7 := hid (show Below w1.heap.size w1 w7 from by rw [hw7]; exact HB6.out.alloc HB6.out.size _)
    rw [← hw7, ← hb15]
    clear hw7 hb15 HF6
    have HZA := hid (below_class (wb := w7) (Nat.le_refl w7.heap.size) fun z => HK1.out z.val)
    have HZB := hid (below_class (wb := w7) (Nat.le_refl w7.heap.size) fun z => HK2.out z.val)
    have HZC := hid (below_class (wb := w7) (Nat.le_refl w7.heap.size) fun z => HWK.out z.val)
    have j3 := fun z : BW w7.heap.size w7 => (HC.out z.val (bnext HB7.out z.ok)).2.1
    have j4 := fun z : BW w7.heap.size w7 => (HC.out z.val (bnext HB7.out z.ok)).2.2
    have k1 := fun z : BW w7.heap.size w7 => (HFA.out.below z.ok).cells.1.1
    have k2 := fun z : BW w7.heap.size w7 => (HFA.out.below z.ok).cells.1.2
    have k3 := fun z : BW w7.heap.size w7 => (HFB.out.below z.ok).cells.1.1
    have k4 := fun z : BW w7.heap.size w7 => (HFB.out.below z.ok).cells.1.2
    have hev := fun W => run_eql_frac S.1.n S.1.d S.1.n S.1.d W
    simp only [and_self, decide_true] at hev
    refine region_below (by kernel_rfl) (by kernel_rfl) (Below.refl w7.heap.size w7) ?_
    repeat (go_big_quiet_step (first | (go_at_call 35; with_reducible exact (HZA.out _)) | (go_at_call 19; with_reducible exact (HZB.out _)) | (go_at_call 11; with_reducible exact (HZC.out _))))
    refine wpQuiet_nil ?_
    intro _ hw'
    obtain ⟨u, rfl⟩ := hw'
    have HU := hid (bnext HB7.out u.ok)
    clear j3 j4 k1 k2 k3 k4 hev
    go_wp2_with fail
    go_ret
    exact ⟨rfl, HB1.out.trans (HU.out.mono HB1.out.size)⟩
end Go.Proofs.Ytfkcpcdndleboaa
