/- WALK: the law GridLays (printed by gen_l_lays.py). -/
import Derived.Test.YtfkcpcdndleboaaArgsD
import Derived.Test.YtfkcpcdndleboaaLayN
import Derived.Test.YtfkcpcdndleboaaLayE
namespace Go.Proofs.Ytfkcpcdndleboaa
open Go.RowKit
theorem lay_out {P : Int} {ss : List Sg} {l : List Nd} {d wd : Int} {w : World} {e : Ending} {w' : World} (h : LayPost P ss l d wd w e w') : ∃ A' c', e = .returned (.tuple #[.slice A' (layR P ss l d wd).length c', .int .i64 (begE P ss l d wd)]) ∧ Bxr w' w'.heap.size A' (layR P ss l d wd) ∧ Below w.heap.size w w' := by
  obtain ⟨v, h1, h2, h3⟩ := h
  obtain ⟨A', c', rfl⟩ := own_slice h2
  exact ⟨A', c', h1, Reads.of_own h2, h3⟩
theorem layR_bd {P : Int} {ss : List Sg} {l : List Nd} {d wd : Int} : (layR P ss l d wd).length ≤ 1000000 := by
  unfold layR
  split
  · rename_i hb
    have hp : Pln P ss (plR l l.length) := pln_of (beg_ok hb).1
    have hpg := page_ok (beg_ok hb).2
    have hn := hp.len
    have h1 := boxJ_len (rows := decide (d ≤ 2)) (way := d) hp (show 0 ≤ wd by omega) hpg.2.2 (grpL ss (plR l l.length) (decide (d ≤ 2)) wd).length (Nat.le_refl _)
    rw [boxJ_end] at h1
    have h2 : (grpL ss (plR l l.length) (decide (d ≤ 2)) wd).length = (kidsOf (plR l l.length) (-1)).length := grpL_len
    have h3 := kidsOf_len (l := plR l l.length) (node := -1) (by omega)
    omega
  · simp
set_option maxRecDepth 100000 in
set_option maxHeartbeats 8000000 in
theorem lays_law (P : Int) (ss : List Sg) (l : List Nd) (d wd : Int) (A A2 : Option Addr) (c c2 : Nat) (hl : ss.length ≤ 9223372036854775807) (hv : ∀ s ∈ ss, s.vals.length ≤ 9223372036854775807) (w : World) (rs : Sgs w w.heap.size A ss) (rn : Nds w w.heap.size A2 l) :
    Calls Try.prog 3 #[.agg #[.int .i64 P, .slice A ss.length c, .slice A2 l.length c2], .agg #[.int .i64 d, .int .i64 wd]] w fun e w' => e = .returned (.bool true) ∧ Below w.heap.size w w' := by
  obtain ⟨r1, hr1⟩ : ∃ x : Bool, (x = true ↔ BigP ss l) := by
    by_cases h : BigP ss l
    · exact ⟨true, iff_of_true rfl h⟩
    · exact ⟨false, iff_of_false (by simp) h⟩
  have hsm := fun h : ¬ BigP ss l => small_of h
  obtain ⟨w1, hw1⟩ : ∃ w1, w1 = (w.alloc (.cells #[.int .i64 P, .slice A ss.length c, .slice A2 l.length c2] 29)).alloc (.cells #[.int .i64 d, .int .i64 wd] 31) := ⟨_, rfl⟩
  have hb1 : Below w.heap.size w w1 := by rw [hw1]; exact ((Below.refl _ _).alloc (Nat.le_refl _) _).alloc (by simp) _
  have hz1 : w1.heap.size = w.heap.size + 2 := by rw [hw1]; simp
  have g0 : w1.heap[w.heap.size]? = some (.cells #[.int .i64 P, .slice A ss.length c, .slice A2 l.length c2] 29 (0, 0)) := by rw [hw1]; exact old_blk (nw_blk rfl)
  have g1 : w1.heap[w.heap.size + 1]? = some (.cells #[.int .i64 d, .int .i64 wd] 31 (0, 0)) := by rw [hw1]; exact nw_blk (by simp)
  have HC := hid fun (W : World) (h : Below w1.heap.size w1 W) => (show (W.cell? ⟨w.heap.size, 0, none⟩ = some (.int .i64 P) ∧ W.cell? ⟨w.heap.size, 1, none⟩ = some (.slice A ss.length c) ∧ W.cell? ⟨w.heap.size, 2, none⟩ = some (.slice A2 l.length c2)) ∧ W.cell? ⟨w.heap.size + 1, 0, none⟩ = some (.int .i64 d) ∧ W.cell? ⟨w.heap.size + 1, 1, none⟩ = some (.int .i64 wd) from by
    have e0 := (h.block _ (by omega)).trans g0
    have e1 := (h.block _ (by omega)).trans g1
    refine ⟨⟨?_, ?_, ?_⟩, ?_, ?_⟩ <;> simp [World.cell?, e0, e1])
  have HBG := hid ((bigP_any P ss l A A2 c c2 hl hv w1 ((rs.below hb1).more hb1.size)).mono fun e w' hb => hb.get hr1)
  have HRS := hid fun (W : World) (h : Below w1.heap.size w1 W) => (show Sgs W W.heap.size A ss from (rs.below (hb1.trans (h.mono hb1.size))).more (Nat.le_trans hb1.size h.size))
  have HRN := hid fun (W : World) (h : Below w1.heap.size w1 W) => (show Nds W W.heap.size A2 l from (rn.below (hb1.trans (h.mono hb1.size))).more (Nat.le_trans hb1.size h.size))
  have HWK := hid fun (W : World) => works_any W
  have HN1 := hid fun (s1 : ss.length ≤ 30) (s2 : l.length ≤ 210) (s3 : ∀ s ∈ ss, s.vals.length ≤ 20) (ss' : List Sg) (A3 A4 : Option Addr) (c3 c4 : Nat) (W : World) (hp : Copies ss l ss' A3 A4 c3 c4 W) => (show Calls Try.prog 13 #[.agg #[.int .i64 P, .slice A3 ss'.length c3], .agg #[.slice A4 l.length c4], .agg #[.int .i64 d, .int .i64 wd]] W fun e w' => ∃ A' c', e = .returned (.tuple #[.slice A' (layR P ss l d wd).length c', .int .i64 (begE P ss l d wd)]) ∧ Bxr w' w'.heap.size A' (layR P ss l d wd) ∧ Below W.heap.size W w' from by
    have := (lay_any P ss' l (by rw [hp.len]; omega) (hp.vals s3) (by omega) d wd A3 A4 c3 c4 W hp.sg hp.nd).mono fun e w' h => lay_out h
    rwa [begE_core hp.core, layR_core hp.core] at this)
  have HN2 := hid fun (s1 : ss.length ≤ 30) (s2 : l.length ≤ 210) (s3 : ∀ s ∈ ss, s.vals.length ≤ 20) (W : World) (h : Below w1.heap.size w1 W) => (LayN_any P ss l (by omega) (fun s hs => by have := s3 s hs; omega) (by omega) d wd A A2 c c2 W (HRS.out W h) (HRN.out W h)).mono fun e w' h => lay_out h
  have HSB := hid fun (A3 A4 : Option Addr) (c3 c4 : Nat) (W : World) (r1 : Bxr W W.heap.size A3 (layR P ss l d wd)) (r2 : Bxr W W.heap.size A4 (layR P ss l d wd)) => sameBoxes_any (layR P ss l d wd) A3 A4 c3 c4 layR_bd W r1 r2
  have HST := hid fun (s2 : l.length ≤ 210) (A3 : Option Addr) (c3 : Nat) (W : World) (h : Below w1.heap.size w1 W) (r : Nds W W.heap.size A3 l) => (sameText_any l l A3 A2 c3 c2 (by omega) (by omega) W r (HRN.out W h)).mono fun e w' hb => hb.get (r := true) (iff_of_true rfl rfl)
  have HLI := hid fun (s1 : ss.length ≤ 30) (s3 : ∀ s ∈ ss, s.vals.length ≤ 20) (W : World) (h : Below w1.heap.size w1 W) => list_at (P := P) (c := c) (V := .slice A2 l.length c2) s1 s3 hb1 rs W h
  have HTX := hid fun (s2 : l.length ≤ 210) (W : World) (h : Below w1.heap.size w1 W) => text_at (P := P) (A := A) (N := ss.length) (c := c) (c2 := c2) s2 hb1 rn W h
  generalize layR P ss l d wd = V at *
  generalize begE P ss l d wd = E at *
  have HW1 := hid hw1; have HB1 := hid hb1; have HSM := hid hsm; have HR1 := hid hr1
  clear hw1 rs rn hsm hr1 hv hl hb1 HRS HRN g0 g1
  obtain ⟨m, hm⟩ : ∃ m, m = V.length := ⟨_, rfl⟩
  rw [← hm] at HN1 HN2 HSB
  clear hm
  go_enter Try.func3, Try.ntmps3
  go_upto_region 1 with (fail)
  rw [← HW1.out]
  clear HW1
  obtain ⟨B0, hB0⟩ : ∃ B0, B0 = w.heap.size := ⟨_, rfl⟩
  obtain ⟨B1, hB1⟩ : ∃ B1, B1 = B0 + 1 := ⟨_, rfl⟩
  rw [← hB0] at HC
  rw [← hB1] at HC
  rw [← hB0]
  try rw [← hB1]
  clear hB0 hB1 hz1
  obtain ⟨⟨c0, c1, c2'⟩, c3, c4⟩ := HC.out w1 (Below.refl _ _)
  cases r1 with
  | true =>
    go_wp2_with (first | (go_at_call 10; refine HBG.out.mono ?_; rintro e w2 ⟨rfl, hb2⟩; have HB2 := hid hb2; clear hb2 c0 c1 c2' c3 c4) | (go_at_call 11; refine (HWK.out _).mono ?_; rintro e w3 ⟨rfl, hb3⟩; have HB3 := hid (bnext HB2.out hb3); clear hb3))
    go_ret
    exact ⟨rfl, HB1.out.trans (HB3.out.mono HB1.out.size)⟩
  | false =>
    obtain ⟨s1, s2, s3⟩ := HSM.out (fun h => by have := HR1.out.2 h; cases this)
    replace HLI := hid (HLI.out s1 s3); replace HTX := hid (HTX.out s2)
    replace HN1 := hid (HN1.out s1 s2 s3); replace HN2 := hid (HN2.out s1 s2 s3); replace HST := hid (HST.out s2)
    clear HSM HR1
    obtain ⟨N, hN⟩ : ∃ N, N = ss.length := ⟨_, rfl⟩
    obtain ⟨n, hn⟩ : ∃ n, n = l.length := ⟨_, rfl⟩
    have HNl := hid hn
    rw [← hN] at c1 HC HBG HLI HTX HN2 ⊢
    rw [← hn] at c2' HC HBG HLI HTX HN1 HN2 HST ⊢
    clear hN hn s1 s2 s3
    go_upto_region 4 with (first | (go_at_call 10; refine HBG.out.mono ?_; rintro e w2 ⟨rfl, hb2⟩; have HB2 := hid hb2; clear hb2 c0 c1 c2' c3 c4; obtain ⟨⟨c0, c1, c2'⟩, c3, c4⟩ := HC.out w2 HB2.out) | (go_at_call 12; refine (HTX.out w2 HB2.out).mono ?_; rintro e w31 ⟨A31, c31, rfl, ho31, hb31⟩; have HO31 := hid ho31; have HB31 := hid (bnext HB2.out hb31); clear ho31 hb31 c0 c1 c2' c3 c4))
    obtain ⟨w3, hw3⟩ : ∃ w3, w3 = w31.alloc (.cells #[.slice A31 n c31] 27) := ⟨_, rfl⟩
    obtain ⟨b5, hb5⟩ : ∃ b5, b5 = w31.heap.size := ⟨_, rfl⟩
    have htx : TxB w3 b5 (.slice A31 n c31) := by rw [hw3, hb5]; exact nw_blk rfl
    have hx3 : Below w31.heap.size w31 w3 := by rw [hw3]; exact (Below.refl _ _).alloc (Nat.le_refl _) _
    have HTX3 := hid htx
    have HO3 := hid (own_keep HO31.out hx3)
    have HB3 := hid (bnext HB31.out hx3)
    rw [← hw3]
    try rw [← hb5]
    clear hw3 hb5 htx hx3 HO31 HTX
    have HS := hid fun (w' : World) (h : Below w3.heap.size w3 w') => (show (w'.cell? ⟨B0, 0, none⟩ = some (.int .i64 P) ∧ w'.cell? ⟨B0, 1, none⟩ = some (.slice A N c) ∧ w'.cell? ⟨B0, 2, none⟩ = some (.slice A2 n c2)) ∧ (w'.cell? ⟨B1, 0, none⟩ = some (.int .i64 d) ∧ w'.cell? ⟨B1, 1, none⟩ = some (.int .i64 wd)) ∧ w'.cell? ⟨b5, 0, none⟩ = some (.slice A31 n c31) from by
      obtain ⟨x1, x2⟩ := HC.out w' (bnext HB3.out h)
      exact ⟨x1, x2, (HTX3.out.below h).cells⟩)
    go_region_held3 (fun w' => (w'.cell? ⟨B0, 0, none⟩ = some (.int .i64 P) ∧ w'.cell? ⟨B0, 1, none⟩ = some (.slice A N c) ∧ w'.cell? ⟨B0, 2, none⟩ = some (.slice A2 n c2)) ∧ (w'.cell? ⟨B1, 0, none⟩ = some (.int .i64 d) ∧ w'.cell? ⟨B1, 1, none⟩ = some (.int .i64 wd)) ∧ w'.cell? ⟨b5, 0, none⟩ = some (.slice A31 n c31)) (first | exact HS.out _ (Below.refl _ _) | exact HS.out _ (Below.refl _ _).drew | exact HS.out _ HX40.out | exact HS.out _ HX41.out | fail) (first | (go_at_call 14; refine (HLI.out _ (by first | exact HB3.out.drew | exact HB3.out)).mono ?_; rintro e w40 ⟨A40, c40, ss40, rfl, hl40, hb40⟩; have HX40 := hid (show Below w3.heap.size w3 w40 from (by first | exact bnext (Below.refl _ _).drew hb40 | exact hb40)); have HP40 := hid (Copies.mk' (c4 := c31) hl40 (Below.refl _ _) (by rw [← HNl.out]; exact own_keep HO3.out HX40.out)); clear hl40 hb40) | (go_at_call 13; refine (HN1.out _ _ _ _ _ _ HP40.out).mono ?_; rintro e w41 ⟨A41, c41, rfl, hr41, hb41⟩; have HL41 := hid hr41; have HX41 := hid (bnext HX40.out hb41); clear hr41 hb41))
    clear HS HP40 HLI HN1
    have HB41 := hid (bnext HB3.out HX41.out)
    obtain ⟨⟨q0, q1, q2⟩, q3, q4⟩ := HC.out w41 HB41.out
    go_upto_region 6 with (first | (go_at_call 15; refine (HN2.out _ HB41.out).mono ?_; rintro e w5 ⟨A5, c5, rfl, hr5, hb5⟩; have HL5 := hid hr5; have HLA := hid (show Bxr w5 w5.heap.size A41 V from rdn HL41.out hb5); have HX5 := hid (bnext HX41.out hb5); clear hr5 hb5))
    clear q0 q1 q2 q3 q4 HN2 HL41 HX40 HX41 HB41
    have HB5 := hid (bnext HB3.out HX5.out)
    have HNDX := hid fun (W : World) (h : Below w5.heap.size w5 W) => (show Nds W W.heap.size A31 l from by
      have ho := HO3.out
      rw [HNl.out] at ho
      exact rdn (Reads.of_own ho) (bnext HX5.out h))
    have HCW := hid fun (W : World) (h : Below w5.heap.size w5 W) => HC.out W (bnext HB5.out h)
    have HTW := hid fun (W : World) (h : Below w5.heap.size w5 W) => (HTX3.out.below (bnext HX5.out h)).cells
    go_wp2_with (first | (go_at_call 16; refine (HSB.out _ _ _ _ _ HLA.out HL5.out).mono ?_; rintro e w6 ⟨rfl, hb6⟩; have HX6 := hid hb6; have q5 := HTW.out w6 hb6; obtain ⟨⟨q0, q1, q2⟩, q3, q4⟩ := HCW.out w6 hb6; clear hb6) | (go_at_call 17; refine (HST.out _ _ _ (bnext HB5.out HX6.out) (HNDX.out _ HX6.out)).mono ?_; rintro e w7 ⟨rfl, hb7⟩; have HX7 := hid (bnext HX6.out hb7); clear hb7) | (go_at_call 11; refine (HWK.out _).mono ?_; rintro e w8 ⟨rfl, hb8⟩; have HX8 := hid (bnext HX7.out hb8); clear hb8))
    go_ret
    exact ⟨rfl, HB1.out.trans ((bnext HB5.out HX8.out).mono HB1.out.size)⟩
end Go.Proofs.Ytfkcpcdndleboaa
