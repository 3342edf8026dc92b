/- WALK: the law GroupsCompared. -/
import Derived.Test.YtddbnggficlcfaaArgs
import Derived.Test.YtddbnggficlcfaaAlikeR
namespace Go.Proofs.Ytddbnggficlcfaa
open Go.RowKit
theorem AlkPost.get {E : Int} {R : Prop} {w : World} {e : Ending} {w' : World} (h : AlkPost E R w e w') {x : Bool} (hx : x = true ↔ E = 0 ∧ R) : e = .returned (.tuple #[.bool x, .int .i64 E]) ∧ Below w.heap.size w w' := by
  obtain ⟨⟨y, rfl, hy⟩, hb⟩ := h
  obtain rfl : y = x := Bool.eq_iff_iff.2 (hy.trans hx.symm)
  exact ⟨rfl, hb⟩
theorem alkE_core {P : Int} {ss ss' : List Sg} (h : ss'.map Sg.core = ss.map Sg.core) (a b : List Nd) : alkE P ss' a b = alkE P ss a b := by unfold alkE; rw [chkE_core h, chkE_core h]
theorem Copies.below {ss : List Sg} {l : List Nd} {ss' : List Sg} {A3 A4 : Option Addr} {c3 c4 : Nat} {W W' : World} (h : Copies ss l ss' A3 A4 c3 c4 W) (hb : Below W.heap.size W W') : Copies ss l ss' A3 A4 c3 c4 W' := ⟨(h.sg.below hb).more hb.size, h.core, h.cap, rdn h.nd hb, h.room⟩
theorem bool_of (p : Prop) : ∃ x : Bool, (x = true ↔ p) := by
  by_cases h : p
  · exact ⟨true, iff_of_true rfl h⟩
  · exact ⟨false, iff_of_false (by simp) h⟩
set_option maxRecDepth 100000 in
set_option maxHeartbeats 8000000 in
theorem compared_law (P : Int) (ss : List Sg) (l : List Nd) (t : List Nd) (A5 : Option Addr) (c5 : Nat) (A A2 : Option Addr) (c c2 : Nat) (hl : ss.length ≤ 9223372036854775807) (hv : ∀ s ∈ ss, s.vals.length ≤ 9223372036854775807) (htl : t.length ≤ 9223372036854775807) (w : World) (rs : Sgs w w.heap.size A ss) (rn : Nds w w.heap.size A2 l) (rt : Nds w w.heap.size A5 t) :
    Calls Try.prog 7 #[.agg #[.int .i64 P, .slice A ss.length c, .slice A2 l.length c2], .agg #[.slice A5 t.length c5]] w fun e w' => e = .returned (.bool true) ∧ Below w.heap.size w w' := by
  obtain ⟨r1, hr1⟩ : ∃ x : Bool, (x = true ↔ BigP ss l) := by
    by_cases h : BigP ss l
    · exact ⟨true, iff_of_true rfl h⟩
    · exact ⟨false, iff_of_false (by simp) h⟩
  have hsm := fun h : ¬ BigP ss l => small_of h
  obtain ⟨w1, hw1⟩ : ∃ w1, w1 = (w.alloc (.cells #[.int .i64 P, .slice A ss.length c, .slice A2 l.length c2] 29)).alloc (.cells #[.slice A5 t.length c5] 27) := ⟨_, rfl⟩
  have hb1 : Below w.heap.size w w1 := by rw [hw1]; exact ((Below.refl _ _).alloc (Nat.le_refl _) _).alloc (by simp) _
  have hz2 : w.heap.size + 1 < w1.heap.size := by rw [hw1]; simp
  have hz1 : w.heap.size < w1.heap.size := by omega
  have c0 : w1.cell? ⟨w.heap.size, 0, none⟩ = some (.int .i64 P) := by rw [hw1]; exact cell_old (cell_here rfl rfl)
  have c1 : w1.cell? ⟨w.heap.size, 1, none⟩ = some (.slice A ss.length c) := by rw [hw1]; exact cell_old (cell_here rfl rfl)
  have c3 : w1.cell? ⟨w.heap.size, 2, none⟩ = some (.slice A2 l.length c2) := by rw [hw1]; exact cell_old (cell_here rfl rfl)
  have c5' : w1.cell? ⟨w.heap.size + 1, 0, none⟩ = some (.slice A5 t.length c5) := by rw [hw1]; exact cell_here (by simp) rfl
  have HBG := hid ((bigP_any P ss l A A2 c c2 hl hv w1 ((rs.below hb1).more hb1.size)).mono fun e w' hb => hb.get hr1)
  obtain ⟨x, hx⟩ := bool_of (alkE P ss l t = 0 ∧ alkR l t)
  obtain ⟨y, hy⟩ := bool_of (l = t)
  have hF1 := fun (s1 : ss.length ≤ 30) (s2 : l.length ≤ 210) (s3 : ∀ s ∈ ss, s.vals.length ≤ 20) (ht : t.length ≤ 210) (ss' : List Sg) (A3 A4 A6 : Option Addr) (c3 c4 c6 : Nat) (W : World) (hp : Copies ss l ss' A3 A4 c3 c4 W) (rt : Nds W W.heap.size A6 t) =>
    (by have := alikeE_any P ss' l t (by rw [hp.len]; omega) (hp.vals s3) (by omega) (by omega) A3 A4 A6 c3 c4 c6 W hp.sg hp.nd rt; rw [alkE_core hp.core l t] at this; exact this.mono fun e w' h => h.get hx : Calls Try.prog 40 #[.agg #[.int .i64 P, .slice A3 ss'.length c3], .agg #[.slice A4 l.length c4], .agg #[.slice A6 t.length c6]] W fun e w' => e = .returned (.tuple #[.bool x, .int .i64 (alkE P ss l t)]) ∧ Below W.heap.size W w')
  have hG1 := fun (s1 : ss.length ≤ 30) (s2 : l.length ≤ 210) (s3 : ∀ s ∈ ss, s.vals.length ≤ 20) (ht : t.length ≤ 210) (W : World) (h : Below w1.heap.size w1 W) =>
    (refAlike_any P ss l t (by omega) (fun s hs => by have := s3 s hs; omega) (by omega) (by omega) A A2 A5 c c2 c5 W ((rs.below (hb1.trans (h.mono hb1.size))).more (Nat.le_trans hb1.size h.size)) ((rn.below (hb1.trans (h.mono hb1.size))).more (Nat.le_trans hb1.size h.size)) ((rt.below (hb1.trans (h.mono hb1.size))).more (Nat.le_trans hb1.size h.size))).mono fun e w' h => h.get hx
  have hCT := fun (ht : t.length ≤ 210) (W : World) (h : Below w1.heap.size w1 W) => copyText_any t A5 c5 (by omega) W ((rt.below (hb1.trans (h.mono hb1.size))).more (Nat.le_trans hb1.size h.size))
  have hSE := fun (s2 : l.length ≤ 210) (ht : t.length ≤ 210) (W : World) (A3 A4 : Option Addr) (c3 c4 : Nat) (ra : Nds W W.heap.size A3 l) (rb : Nds W W.heap.size A4 t) => (sameE_any l t A3 A4 c3 c4 (by omega) (by omega) W ra rb).mono fun e w' h => h.get hy
  have hSR := fun (s2 : l.length ≤ 210) (ht : t.length ≤ 210) (W : World) (h : Below w1.heap.size w1 W) => (sameText_any l t A2 A5 c2 c5 (by omega) (by omega) W ((rn.below (hb1.trans (h.mono hb1.size))).more (Nat.le_trans hb1.size h.size)) ((rt.below (hb1.trans (h.mono hb1.size))).more (Nat.le_trans hb1.size h.size))).mono fun e w' h => h.get hy
  generalize alkE P ss l t = E1 at hF1 hG1
  have hrt := rt
  obtain ⟨nt, hnt⟩ : ∃ n, n = t.length := ⟨_, rfl⟩
  rw [← hnt] at c5' hw1 htl ⊢
  have HNT := hid hnt
  clear hx hy hnt rt hrt
  have hrs := rs; have hrn := rn
  obtain ⟨N, hN⟩ : ∃ N, N = ss.length := ⟨_, rfl⟩
  obtain ⟨n, hn⟩ : ∃ n, n = l.length := ⟨_, rfl⟩
  rw [← hN] at c1 hw1 HBG ⊢
  rw [← hn] at c3 hw1 HBG ⊢
  have HW1 := hid hw1; have HB1 := hid hb1; have HSM := hid hsm; have HR1 := hid hr1; have HNN := hid hN; have HNl := hid hn; have HRS := hid hrs; have HRN := hid hrn
  have HF1 := hid hF1; have HG1 := hid hG1; have HCT := hid hCT; have HSE := hid hSE; have HSR := hid hSR
  have HC5 := hid fun (wr : World) (h : Below w1.heap.size w1 wr) => (h.cell (p := ⟨w.heap.size + 1, 0, none⟩) hz2).trans c5'
  clear hF1 hG1 hCT hSE hSR
  have HW : Hid (∀ wr, Below w1.heap.size w1 wr → Below w.heap.size w wr) := fun wr h => hb1.trans (h.mono (by omega))
  have HWK := hid fun (W : World) => works_any W
  have HC0 := hid fun (wr : World) (h : Below w1.heap.size w1 wr) => (h.cell (p := ⟨w.heap.size, 0, none⟩) hz1).trans c0
  have HC1 := hid fun (wr : World) (h : Below w1.heap.size w1 wr) => (h.cell (p := ⟨w.heap.size, 1, none⟩) hz1).trans c1
  have HC3 := hid fun (wr : World) (h : Below w1.heap.size w1 wr) => (h.cell (p := ⟨w.heap.size, 2, none⟩) hz1).trans c3
  clear hw1 rs rn hsm hr1 hN hn hv hl hb1 hrs hrn
  go_enter Try.func7, Try.ntmps7
  go_upto_region 1 with (fail)
  rw [← HW1.out]
  clear HW1
  obtain ⟨B0, hB0⟩ : ∃ B0, B0 = w.heap.size := ⟨_, rfl⟩
  obtain ⟨B1, hB1⟩ : ∃ B1, B1 = B0 + 1 := ⟨_, rfl⟩
  rw [← hB0, ← hB1] at c5' hz2 HC5
  rw [← hB0] at c0 c1 c3 hz1 HC0 HC1 HC3
  rw [← hB0, ← hB1]
  clear hB0 hB1
  cases r1 with
  | true =>
    clear htl
    go_wp2_with (first | (go_at_call 15; refine HBG.out.mono ?_; rintro e w2 ⟨rfl, hb2⟩; have HB2 := hid hb2; clear hb2 c0 c1 c3 c5') | (go_at_call 16; refine (HWK.out _).mono ?_; rintro e w3 ⟨rfl, hb3⟩; have HB3 := hid (bnext HB2.out hb3); clear hb3))
    go_ret
    exact ⟨rfl, HW.out _ HB3.out⟩
  | false =>
    obtain ⟨s1, s2, s3⟩ := HSM.out (fun h => by have := HR1.out.2 h; cases this)
    have HLI := hid fun (W : World) (h : Below w1.heap.size w1 W) => list_at (P := P) (c := c) (V := .slice A2 n c2) s1 s3 (HW.out _ (Below.refl _ _)) HRS.out W h
    have HTX := hid fun (W : World) (h : Below w1.heap.size w1 W) => text_at (P := P) (A := A) (N := N) (c := c) (c2 := c2) s2 (HW.out _ (Below.refl _ _)) HRN.out W h
    rw [← HNN.out] at HLI
    rw [← HNl.out] at HTX
    rcases Nat.lt_or_ge 210 nt with ht | ht
    · have g0 : decide ((210 : Int) < (nt : Int)) = true := decide_eq_true (by omega)
      clear ht HF1 HG1 HCT HSE HSR
      go_wp2_with (first | (go_at_call 15; refine HBG.out.mono ?_; rintro e w2 ⟨rfl, hb2⟩; have HB2 := hid hb2; have q5 := HC5.out _ hb2; clear hb2 c0 c1 c3 c5') | (go_at_call 16; refine (HWK.out _).mono ?_; rintro e w3 ⟨rfl, hb3⟩; have HB3 := hid (bnext HB2.out hb3); clear hb3))
      go_ret
      exact ⟨rfl, HW.out _ HB3.out⟩
    have g0 : decide ((210 : Int) < (nt : Int)) = false := decide_eq_false (by omega)
    have ht2 : t.length ≤ 210 := by rw [← HNT.out]; exact ht
    replace HF1 := hid (HF1.out s1 s2 s3 ht2); replace HG1 := hid (HG1.out s1 s2 s3 ht2); replace HCT := hid (HCT.out ht2); replace HSE := hid (HSE.out s2 ht2); replace HSR := hid (HSR.out s2 ht2)
    rw [← HNl.out, ← HNT.out] at HF1 HG1 HSE HSR
    rw [← HNN.out] at HG1
    rw [← HNT.out] at HCT
    clear ht ht2 htl
    go_upto_region 3 with (first | (go_at_call 15; refine HBG.out.mono ?_; rintro e w2 ⟨rfl, hb2⟩; have HB2 := hid hb2; have q5 := HC5.out _ hb2; clear hb2 c0 c1 c3 c5'))
    have q0 := HC0.out _ HB2.out; have q1 := HC1.out _ HB2.out; have q3 := HC3.out _ HB2.out
    go_region_held3 (fun w' => w'.cell? ⟨B0, 0, none⟩ = some (.int .i64 P) ∧ w'.cell? ⟨B0, 1, none⟩ = some (.slice A N c) ∧ w'.cell? ⟨B0, 2, none⟩ = some (.slice A2 n c2) ∧ w'.cell? ⟨B1, 0, none⟩ = some (.slice A5 nt c5)) (first | exact ⟨q0, q1, q3, q5⟩ | exact ⟨HC0.out _ HB30.out, HC1.out _ HB30.out, HC3.out _ HB30.out, HC5.out _ HB30.out⟩ | exact ⟨HC0.out _ HB31.out, HC1.out _ HB31.out, HC3.out _ HB31.out, HC5.out _ HB31.out⟩ | exact ⟨HC0.out _ HB32.out, HC1.out _ HB32.out, HC3.out _ HB32.out, HC5.out _ HB32.out⟩ | exact ⟨HC0.out _ HB33.out, HC1.out _ HB33.out, HC3.out _ HB33.out, HC5.out _ HB33.out⟩ | fail) (first | (go_at_call 17; refine (HLI.out _ (by first | exact HB2.out.drew | exact HB2.out)).mono ?_; rintro e w30 ⟨A30, c30, ss30, rfl, hl30, hb30⟩; have HL30 := hid hl30; have HB30 := hid (show Below w1.heap.size w1 w30 from bnext (by first | exact HB2.out.drew | exact HB2.out) hb30); clear hl30 hb30) | (go_at_call 18; refine (HTX.out _ HB30.out).mono ?_; rintro e w31 ⟨A31, c31, rfl, ho31, hb31⟩; have HP31 := hid (Copies.mk' (c4 := c31) HL30.out hb31 (by rw [← HNl.out]; exact ho31)); have HB31 := hid (bnext HB30.out hb31); clear ho31 hb31) | (go_at_call 38; refine (HCT.out _ HB31.out).mono ?_; rintro e w32 ⟨A32, c32, rfl, ho32, hb32⟩; have HT32 := hid (show Nds w32 w32.heap.size A32 t from Reads.of_own (by rw [← HNT.out]; exact ho32)); have HP32 := hid (HP31.out.below hb32); have HB32 := hid (bnext HB31.out hb32); clear ho32 hb32) | (go_at_call 40; refine (HF1.out _ _ _ _ _ _ _ _ HP32.out HT32.out).mono ?_; rintro e w33 ⟨rfl, hb33⟩; have HB33 := hid (bnext HB32.out hb33); clear hb33))
    clear q0 q1 q3 q5
    have q0 := HC0.out _ HB33.out; have q1 := HC1.out _ HB33.out; have q3 := HC3.out _ HB33.out; have q5 := HC5.out _ HB33.out
    go_upto_region 5 with (first | (go_at_call 41; refine (HG1.out _ HB33.out).mono ?_; rintro e w4 ⟨rfl, hb4⟩; have HB4 := hid (bnext HB33.out hb4); clear hb4 q0 q1 q3 q5))
    have q0 := HC0.out _ HB4.out; have q1 := HC1.out _ HB4.out; have q3 := HC3.out _ HB4.out; have q5 := HC5.out _ HB4.out
    go_region_held3 (fun w' => w'.cell? ⟨B0, 0, none⟩ = some (.int .i64 P) ∧ w'.cell? ⟨B0, 1, none⟩ = some (.slice A N c) ∧ w'.cell? ⟨B0, 2, none⟩ = some (.slice A2 n c2) ∧ w'.cell? ⟨B1, 0, none⟩ = some (.slice A5 nt c5)) (first | exact ⟨q0, q1, q3, q5⟩ | exact ⟨HC0.out _ HB50.out, HC1.out _ HB50.out, HC3.out _ HB50.out, HC5.out _ HB50.out⟩ | exact ⟨HC0.out _ HB51.out, HC1.out _ HB51.out, HC3.out _ HB51.out, HC5.out _ HB51.out⟩ | exact ⟨HC0.out _ HB52.out, HC1.out _ HB52.out, HC3.out _ HB52.out, HC5.out _ HB52.out⟩ | exact ⟨HC0.out _ HB53.out, HC1.out _ HB53.out, HC3.out _ HB53.out, HC5.out _ HB53.out⟩ | exact ⟨HC0.out _ HB54.out, HC1.out _ HB54.out, HC3.out _ HB54.out, HC5.out _ HB54.out⟩ | fail) (first | (go_at_call 18; refine (HTX.out _ (by first | exact HB4.out.drew | exact HB4.out)).mono ?_; rintro e w50 ⟨A50, c50, rfl, ho50, hb50⟩; have HT50 := hid (show Nds w50 w50.heap.size A50 l from Reads.of_own (by rw [← HNl.out]; exact ho50)); have HB50 := hid (show Below w1.heap.size w1 w50 from bnext (by first | exact HB4.out.drew | exact HB4.out) hb50); clear ho50 hb50) | (go_at_call 38; refine (HCT.out _ HB50.out).mono ?_; rintro e w51 ⟨A51, c51, rfl, ho51, hb51⟩; have HT51 := hid (show Nds w51 w51.heap.size A51 t from Reads.of_own (by rw [← HNT.out]; exact ho51)); replace HT50 := hid (rdn HT50.out hb51); have HB51 := hid (bnext HB50.out hb51); clear ho51 hb51) | (go_at_call 42; refine (HSE.out _ _ _ _ _ HT50.out HT51.out).mono ?_; rintro e w52 ⟨rfl, hb52⟩; have HB52 := hid (bnext HB51.out hb52); clear hb52) | (go_at_call 22; refine (HSR.out _ HB52.out).mono ?_; rintro e w53 ⟨rfl, hb53⟩; have HB53 := hid (bnext HB52.out hb53); clear hb53) | (go_at_call 16; refine (HWK.out _).mono ?_; rintro e w54 ⟨rfl, hb54⟩; have HB54 := hid (bnext HB53.out hb54); clear hb54))
    go_wp2_with fail
    go_ret
    exact ⟨rfl, HW.out _ HB54.out⟩
end Go.Proofs.Ytddbnggficlcfaa
