/- ostraconlaw02.right. -/
import Derived.Test.YtddbnggficlcfaaArgs
import Derived.Test.YtddbnggficlcfaaGrp
import Derived.Test.YtddbnggficlcfaaSplLaw
import Derived.Test.YtddbnggficlcfaaSubsLaw
import Derived.Test.YtddbnggficlcfaaKidsLaw
namespace Go.Proofs.Ytddbnggficlcfaa
open Go.RowKit
set_option maxRecDepth 100000 in
set_option maxHeartbeats 4000000 in
theorem rightP_any (P : Int) (ss : List Sg) (l : List Nd) (A A2 : Option Addr) (c c2 : Nat) (hl : ss.length ≤ 9223372036854775807) (hv : ∀ s ∈ ss, s.vals.length ≤ 9223372036854775807) (w : World) (rs : Sgs w w.heap.size A ss) (rn : Nds w w.heap.size A2 l) :
    Calls Try.prog 49 #[.agg #[.int .i64 P, .slice A ss.length c, .slice A2 l.length c2]] w (BoolIs (¬ BigP ss l ∧ chkE P ss l = 0) w) := by
  obtain ⟨r1, hr1⟩ : ∃ x : Bool, (x = true ↔ BigP ss l) := by
    by_cases h : BigP ss l
    · exact ⟨true, iff_of_true rfl h⟩
    · exact ⟨false, iff_of_false (by simp) h⟩
  have hsm := fun h : ¬ BigP ss l => small_of h
  obtain ⟨w1, hw1⟩ : ∃ w1, w1 = w.alloc (.cells #[.int .i64 P, .slice A ss.length c, .slice A2 l.length c2] 29) := ⟨_, rfl⟩
  have hb1 : Below w.heap.size w w1 := by rw [hw1]; exact (Below.refl _ _).alloc (Nat.le_refl _) _
  have hz1 : w.heap.size < w1.heap.size := by rw [hw1]; simp
  have c0 : w1.cell? ⟨w.heap.size, 0, none⟩ = some (.int .i64 P) := by rw [hw1]; exact cell_here rfl rfl
  have c1 : w1.cell? ⟨w.heap.size, 1, none⟩ = some (.slice A ss.length c) := by rw [hw1]; exact cell_here rfl rfl
  have c3 : w1.cell? ⟨w.heap.size, 2, none⟩ = some (.slice A2 l.length c2) := by rw [hw1]; exact cell_here rfl rfl
  have HBG := hid ((bigP_any P ss l A A2 c c2 hl hv w1 ((rs.below hb1).more hb1.size)).mono fun e w' hb => hb.get hr1)
  have HCK := hid fun (s1 : ss.length ≤ 30) (s2 : l.length ≤ 210) (s3 : ∀ s ∈ ss, s.vals.length ≤ 20) (W : World) (h : Below w1.heap.size w1 W) =>
    refCheck_any P ss l (by omega) (fun s hs => by have := s3 s hs; omega) (by omega) A A2 c c2 W ((rs.below (hb1.trans (h.mono hb1.size))).more (Nat.le_trans hb1.size h.size)) ((rn.below (hb1.trans (h.mono hb1.size))).more (Nat.le_trans hb1.size h.size))
  have HBI := hid hr1; have HSM := hid hsm
  generalize chkE P ss l = E at HCK ⊢
  generalize BigP ss l = BB at HBI HSM ⊢
  have HCK2 := hid fun (h : ¬ BB) => HCK.out (HSM.out h).1 (HSM.out h).2.1 (HSM.out h).2.2
  generalize ss.length = N at c1 hw1 HBG HCK2 ⊢
  generalize l.length = n at c3 hw1 HBG HCK2 ⊢
  have HW1 := hid hw1; have HB1 := hid hb1
  have HC0 := hid fun (wr : World) (h : Below w1.heap.size w1 wr) => (h.cell (p := ⟨w.heap.size, 0, none⟩) hz1).trans c0
  have HC1 := hid fun (wr : World) (h : Below w1.heap.size w1 wr) => (h.cell (p := ⟨w.heap.size, 1, none⟩) hz1).trans c1
  have HC3 := hid fun (wr : World) (h : Below w1.heap.size w1 wr) => (h.cell (p := ⟨w.heap.size, 2, none⟩) hz1).trans c3
  have HW : Hid (∀ wr, Below w1.heap.size w1 wr → Below w.heap.size w wr) := fun wr h => hb1.trans (h.mono (by omega))
  clear hw1 rs rn hsm hr1 hv hl hb1 HCK HSM
  go_enter Try.func49, Try.ntmps49
  go_upto_region 1 with (fail)
  rw [← HW1.out]
  clear HW1
  obtain ⟨B0, hB0⟩ : ∃ B0, B0 = w.heap.size := ⟨_, rfl⟩
  rw [← hB0] at c0 c1 c3 hz1 HC0 HC1 HC3 ⊢
  clear hB0
  cases r1 with
  | true =>
    go_wp2_with (first | (go_at_call 15; refine HBG.out.mono ?_; rintro e w2 ⟨rfl, hb2⟩; have HB2 := hid hb2; clear hb2 c0 c1 c3))
    go_ret
    exact ⟨⟨_, rfl, iff_of_false (by simp) (fun h => h.1 (HBI.out.1 (by simp)))⟩, HW.out _ HB2.out⟩
  | false =>
    have hnb : ¬ BB := fun h => by have := HBI.out.2 h; cases this
    replace HCK2 := hid (HCK2.out hnb)
    have HNB := hid hnb
    clear hnb
    go_wp2_with (first | (go_at_call 15; refine HBG.out.mono ?_; rintro e w2 ⟨rfl, hb2⟩; have HB2 := hid hb2; have q0 := HC0.out _ hb2; have q1 := HC1.out _ hb2; have q3 := HC3.out _ hb2; clear hb2 c0 c1 c3) | (go_at_call 20; refine (HCK2.out _ HB2.out).mono ?_; rintro e w3 ⟨rfl, hb3⟩; have HB3 := hid (bnext HB2.out hb3); clear hb3 q0 q1 q3))
    go_ret
    exact ⟨⟨_, rfl, by simp only [beq_iff_eq]; exact ⟨fun h => ⟨HNB.out, h⟩, fun h => h.2⟩⟩, HW.out _ HB3.out⟩
end Go.Proofs.Ytddbnggficlcfaa

/- WALK: the law GroupsRestored. -/
namespace Go.Proofs.Ytddbnggficlcfaa
open Go.RowKit
theorem val_nil (ss : List Sg) : Val ss [] := ⟨fun i h => by simp at h, fun i h => by simp at h⟩
set_option maxRecDepth 100000 in
set_option maxHeartbeats 8000000 in
theorem restored_law (P : Int) (ss : List Sg) (l : List Nd) (fr t2 : Int) (A A2 : Option Addr) (c c2 : Nat) (hl : ss.length ≤ 9223372036854775807) (hv : ∀ s ∈ ss, s.vals.length ≤ 9223372036854775807) (w : World) (rs : Sgs w w.heap.size A ss) (rn : Nds w w.heap.size A2 l) :
    Calls Try.prog 10 #[.agg #[.int .i64 P, .slice A ss.length c, .slice A2 l.length c2], .int .i64 fr, .int .i64 t2] w fun e w' => e = .returned (.bool true) ∧ Below w.heap.size w w' := by
  obtain ⟨r1, hr1⟩ : ∃ x : Bool, (x = true ↔ ¬ BigP ss l ∧ chkE P ss l = 0) := by
    by_cases h : ¬ BigP ss l ∧ chkE P ss l = 0
    · exact ⟨true, iff_of_true rfl h⟩
    · exact ⟨false, iff_of_false (by simp) h⟩
  have hsm := fun h : ¬ BigP ss l ∧ chkE P ss l = 0 => (⟨small_of h.1, h.2⟩ : (ss.length ≤ 30 ∧ l.length ≤ 210 ∧ ∀ s ∈ ss, s.vals.length ≤ 20) ∧ chkE P ss l = 0)
  obtain ⟨w1, hw1⟩ : ∃ w1, w1 = w.alloc (.cells #[.int .i64 P, .slice A ss.length c, .slice A2 l.length c2] 29) := ⟨_, rfl⟩
  have hb1 : Below w.heap.size w w1 := by rw [hw1]; exact (Below.refl _ _).alloc (Nat.le_refl _) _
  have hz1 : w.heap.size < w1.heap.size := by rw [hw1]; simp
  have c0 : w1.cell? ⟨w.heap.size, 0, none⟩ = some (.int .i64 P) := by rw [hw1]; exact cell_here rfl rfl
  have c1 : w1.cell? ⟨w.heap.size, 1, none⟩ = some (.slice A ss.length c) := by rw [hw1]; exact cell_here rfl rfl
  have c3 : w1.cell? ⟨w.heap.size, 2, none⟩ = some (.slice A2 l.length c2) := by rw [hw1]; exact cell_here rfl rfl
  have HBG := hid ((rightP_any P ss l A A2 c c2 hl hv w1 ((rs.below hb1).more hb1.size) ((rn.below hb1).more hb1.size)).mono fun e w' hb => hb.get hr1)
  have hFG := fun (s1 : ss.length ≤ 30) (s2 : l.length ≤ 210) (s3 : ∀ s ∈ ss, s.vals.length ≤ 20) (hck : chkE P ss l = 0) (ss' : List Sg) (A3 A4 : Option Addr) (c3 c4 : Nat) (W : World) (hp : Copies ss l ss' A3 A4 c3 c4 W) (h : Below w1.heap.size w1 W) =>
    (by have := groupsE_any P ss' l (by rw [hp.len]; omega) (hp.vals s3) (by omega) A3 A4 c3 c4 W hp.sg hp.nd; rw [chkE_core hp.core l, grpL_core hp.core l, hck, show grpL P ss l = nz (kidsOf l (-1)) from if_pos hck] at this; exact this.mono fun e w' hx => ints_out hx : Calls Try.prog 25 #[.agg #[.int .i64 P, .slice A3 ss'.length c3], .agg #[.slice A4 l.length c4]] W fun e w' => ∃ (A' : Option Addr) (c' : Nat), e = .returned (.tuple #[.slice A' (nz (kidsOf l (-1))).length c', .int .i64 0]) ∧ Rd w' w'.heap.size A' (nz (kidsOf l (-1))) ∧ Below W.heap.size W w')
  have hFS := fun (s1 : ss.length ≤ 30) (s2 : l.length ≤ 210) (s3 : ∀ s ∈ ss, s.vals.length ≤ 20) (hck : chkE P ss l = 0) (i : Nat) (hi : i < (kidsOf l (-1)).length) (ss' : List Sg) (A3 A4 : Option Addr) (c3 c4 : Nat) (W : World) (hp : Copies ss l ss' A3 A4 c3 c4 W) (h : Below w1.heap.size w1 W) =>
    (by
      have := subE_any P ss' l (posG l i : Int) (by rw [hp.len]; omega) (hp.vals s3) (by omega) A3 A4 c3 c4 W hp.sg hp.nd hp.room
      have hlt := posG_lt (l := l) hi
      have hk := (subL_ok (P := P) (ss := ss) (l := l) (node := (posG l i : Int)) hck).2 (by omega)
      rw [(subE_core hp.core l _).1, (subE_core hp.core l _).2, hk.1, hk.2, Int.toNat_natCast, part_str (good_of (chkE_zero hck).2.2.1).wf hi] at this
      exact this.mono fun e w' hx => txt_own hx : Calls Try.prog 43 #[.agg #[.int .i64 P, .slice A3 ss'.length c3], .agg #[.slice A4 l.length c4], .int .i64 (posG l i : Int)] W fun e w' => ∃ (A' : Option Addr) (c' : Nat), e = .returned (.tuple #[.agg #[.slice A' (strG l i (i + 1)).length c'], .int .i64 0]) ∧ w'.ownsRow W.heap.size 78 8 (.slice A' (strG l i (i + 1)).length c') (strG l i (i + 1)).length (flatN (strG l i (i + 1))) ∧ Below W.heap.size W w')
  have hFB := fun (s1 : ss.length ≤ 30) (s2 : l.length ≤ 210) (s3 : ∀ s ∈ ss, s.vals.length ≤ 20) (hck : chkE P ss l = 0) (hno : fr < 0 ∨ t2 < fr ∨ ((kidsOf l (-1)).length : Int) < t2) (ss' : List Sg) (A3 A4 : Option Addr) (c3 c4 : Nat) (W : World) (hp : Copies ss l ss' A3 A4 c3 c4 W) (h : Below w1.heap.size w1 W) =>
    (by
      have := spliceE_any P ss' l [] fr t2 (by rw [hp.len]; omega) (hp.vals s3) (by omega) (by simp) A3 A4 none c3 c4 0 W hp.sg hp.nd ⟨rfl, fun h => absurd h (by simp)⟩ hp.room
      have hk := (sp_c (P := P) (ss := ss) (l := l) (wt := []) (fr := fr) (t2 := t2) hck (of_val (chkE_zero hck).1 (by simp) (val_nil ss))).1 hno
      rw [(spE_core hp.core l [] fr t2).1, (spE_core hp.core l [] fr t2).2, hk.1, hk.2] at this
      exact this.mono fun e w' hx => txt_own hx : Calls Try.prog 37 #[.agg #[.int .i64 P, .slice A3 ss'.length c3], .agg #[.slice A4 l.length c4], .int .i64 fr, .int .i64 t2, .agg #[.slice none 0 0]] W fun e w' => ∃ (A' : Option Addr) (c' : Nat), e = .returned (.tuple #[.agg #[.slice A' 0 c'], .int .i64 1]) ∧ w'.ownsRow W.heap.size 78 8 (.slice A' 0 c') 0 (flatN []) ∧ Below W.heap.size W w')
  have hFP := fun (s1 : ss.length ≤ 30) (s2 : l.length ≤ 210) (s3 : ∀ s ∈ ss, s.vals.length ≤ 20) (hck : chkE P ss l = 0) (f t : Nat) (hft : f ≤ t) (ht : t ≤ (kidsOf l (-1)).length) (ss' : List Sg) (A3 A4 A6 : Option Addr) (c3 c4 c6 : Nat) (W : World) (hp : Copies ss l ss' A3 A4 c3 c4 W) (rt : Nds W W.heap.size A6 (strG l f t)) =>
    (by
      have := spliceE_any P ss' l (strG l f t) (f : Int) (t : Int) (by rw [hp.len]; omega) (hp.vals s3) (by omega) (by have := str_len (l := l) (a := f) (b := t); omega) A3 A4 A6 c3 c4 c6 W hp.sg hp.nd rt hp.room
      have hk := ((sp_c (P := P) (ss := ss) (l := l) (wt := strG l f t) (fr := (f : Int)) (t2 := (t : Int)) hck (str_ok hck hft ht)).2 (by omega)).2 (by rw [Int.toNat_natCast, Int.toNat_natCast, spO_self hft ht]; have := (chkE_zero hck).2.1; omega)
      rw [(spE_core hp.core l _ _ _).1, (spE_core hp.core l _ _ _).2, hk.1, hk.2, Int.toNat_natCast, Int.toNat_natCast, spO_self hft ht] at this
      exact this.mono fun e w' hx => txt_own hx : Calls Try.prog 37 #[.agg #[.int .i64 P, .slice A3 ss'.length c3], .agg #[.slice A4 l.length c4], .int .i64 (f : Int), .int .i64 (t : Int), .agg #[.slice A6 (strG l f t).length c6]] W fun e w' => ∃ (A' : Option Addr) (c' : Nat), e = .returned (.tuple #[.agg #[.slice A' l.length c'], .int .i64 0]) ∧ w'.ownsRow W.heap.size 78 8 (.slice A' l.length c') l.length (flatN l) ∧ Below W.heap.size W w')
  have hCK := fun (s1 : ss.length ≤ 30) (s2 : l.length ≤ 210) (s3 : ∀ s ∈ ss, s.vals.length ≤ 20) (hck : chkE P ss l = 0) (i : Nat) (hi : i < (kidsOf l (-1)).length) (A6 : Option Addr) (c6 : Nat) (W : World) (h : Below w1.heap.size w1 W) (rt : Nds W W.heap.size A6 (strG l i (i + 1))) =>
    (by have := refCheck_any P ss (strG l i (i + 1)) (by omega) (fun s hs => by have := s3 s hs; omega) (by have := str_len (l := l) (a := i) (b := i + 1); omega) A A6 c c6 W ((rs.below (hb1.trans (h.mono hb1.size))).more (Nat.le_trans hb1.size h.size)) rt; rw [str_ok hck (by omega) (by omega)] at this; exact this)
  have hSM := fun (s2 : l.length ≤ 210) (A6 : Option Addr) (c6 : Nat) (W : World) (h : Below w1.heap.size w1 W) (rt : Nds W W.heap.size A6 l) =>
    (sameText_any l l A6 A2 c6 c2 (by omega) (by omega) W rt ((rn.below (hb1.trans (h.mono hb1.size))).more (Nat.le_trans hb1.size h.size))).mono fun e w' h => h.get (r := true) (iff_of_true rfl rfl)
  have hrs := rs; have hrn := rn
  obtain ⟨N, hN⟩ : ∃ N, N = ss.length := ⟨_, rfl⟩
  obtain ⟨n, hn⟩ : ∃ n, n = l.length := ⟨_, rfl⟩
  rw [← hN] at c1 hw1 HBG ⊢
  rw [← hn] at c3 hw1 HBG ⊢
  have HW1 := hid hw1; have HB1 := hid hb1; have HSM := hid hsm; have HR1 := hid hr1; have HNN := hid hN; have HNl := hid hn; have HRS := hid hrs; have HRN := hid hrn
  have HFG := hid hFG; have HFS := hid hFS; have HFB := hid hFB; have HFP := hid hFP; have HCKK := hid hCK; have HSMM := hid hSM
  clear hFG hFS hFB hFP hCK hSM
  have HW : Hid (∀ wr, Below w1.heap.size w1 wr → Below w.heap.size w wr) := fun wr h => hb1.trans (h.mono (by omega))
  have HWK := hid fun (W : World) => works_any W
  have HC0 := hid fun (wr : World) (h : Below w1.heap.size w1 wr) => (h.cell (p := ⟨w.heap.size, 0, none⟩) hz1).trans c0
  have HC1 := hid fun (wr : World) (h : Below w1.heap.size w1 wr) => (h.cell (p := ⟨w.heap.size, 1, none⟩) hz1).trans c1
  have HC3 := hid fun (wr : World) (h : Below w1.heap.size w1 wr) => (h.cell (p := ⟨w.heap.size, 2, none⟩) hz1).trans c3
  clear hw1 rs rn hsm hr1 hN hn hv hl hb1 hrs hrn
  go_enter Try.func10, Try.ntmps10
  go_upto_region 1 with (fail)
  rw [← HW1.out]
  clear HW1
  obtain ⟨B0, hB0⟩ : ∃ B0, B0 = w.heap.size := ⟨_, rfl⟩
  rw [← hB0] at c0 c1 c3 hz1 HC0 HC1 HC3 ⊢
  clear hB0
  cases r1 with
  | false =>
    go_wp2_with (first | (go_at_call 49; refine HBG.out.mono ?_; rintro e w2 ⟨rfl, hb2⟩; have HB2 := hid hb2; clear hb2 c0 c1 c3) | (go_at_call 16; refine (HWK.out _).mono ?_; rintro e w3 ⟨rfl, hb3⟩; have HB3 := hid (bnext HB2.out hb3); clear hb3))
    go_ret
    exact ⟨rfl, HW.out _ HB3.out⟩
  | true =>
    obtain ⟨⟨s1, s2, s3⟩, hck⟩ := HSM.out (HR1.out.1 (by simp))
    have HLI := hid fun (W : World) (h : Below w1.heap.size w1 W) => list_at (P := P) (c := c) (V := .slice A2 n c2) s1 s3 (HW.out _ (Below.refl _ _)) HRS.out W h
    have HTX := hid fun (W : World) (h : Below w1.heap.size w1 W) => text_at (P := P) (A := A) (N := N) (c := c) (c2 := c2) s2 (HW.out _ (Below.refl _ _)) HRN.out W h
    rw [← HNN.out] at HLI
    rw [← HNl.out] at HTX
    replace HFG := hid (HFG.out s1 s2 s3 hck); replace HFS := hid (HFS.out s1 s2 s3 hck); replace HFB := hid (HFB.out s1 s2 s3 hck); replace HFP := hid (HFP.out s1 s2 s3 hck); replace HCKK := hid (HCKK.out s1 s2 s3 hck); replace HSMM := hid (HSMM.out s2)
    rw [← HNl.out] at HFG HFS HFB HFP HSMM
    rw [← HNN.out] at HCKK
    have hgl := kidsOf_len (l := l) (node := -1) (by omega)
    obtain ⟨ng, hng⟩ : ∃ ng, ng = (kidsOf l (-1)).length := ⟨_, rfl⟩
    have hnz : (nz (kidsOf l (-1))).length = ng := by rw [nz_len, hng]
    rw [hnz] at HFG
    rw [← hng] at HFS HFB HFP HCKK hgl
    have HNG := hid hng; have HNZ := hid hnz; have HCK0 := hid hck
    clear hng hnz hck
    go_upto_region 3 with (first | (go_at_call 49; refine HBG.out.mono ?_; rintro e w2 ⟨rfl, hb2⟩; have HB2 := hid hb2; clear hb2 c0 c1 c3))
    have q0 := HC0.out w2 HB2.out; have q1 := HC1.out w2 HB2.out; have q3 := HC3.out w2 HB2.out
    go_region_held3 (fun w' => w'.cell? ⟨B0, 0, none⟩ = some (.int .i64 P) ∧ w'.cell? ⟨B0, 1, none⟩ = some (.slice A N c) ∧ w'.cell? ⟨B0, 2, none⟩ = some (.slice A2 n c2)) (first | exact ⟨q0, q1, q3⟩ | exact ⟨HC0.out _ HB30.out, HC1.out _ HB30.out, HC3.out _ HB30.out⟩ | exact ⟨HC0.out _ HB31.out, HC1.out _ HB31.out, HC3.out _ HB31.out⟩ | exact ⟨HC0.out _ HB32.out, HC1.out _ HB32.out, HC3.out _ HB32.out⟩ | exact ⟨cell_old (HC0.out _ HB32.out), cell_old (HC1.out _ HB32.out), cell_old (HC3.out _ HB32.out)⟩ | fail) (first | (go_at_call 17; refine (HLI.out _ (by first | exact HB2.out.drew | exact HB2.out)).mono ?_; rintro e w30 ⟨A30, c30, ss30, rfl, hl30, hb30⟩; have HL30 := hid hl30; have HB30 := hid (bnext (by first | exact HB2.out.drew | exact HB2.out) hb30); clear hl30 hb30) | (go_at_call 18; refine (HTX.out _ HB30.out).mono ?_; rintro e w31 ⟨A31, c31, rfl, ho31, hb31⟩; have HP31 := hid (Copies.mk' (c4 := c31) HL30.out hb31 (by rw [← HNl.out]; exact ho31)); have HB31 := hid (bnext HB30.out hb31); clear ho31 hb31) | (go_at_call 25; refine (HFG.out _ _ _ _ _ _ HP31.out HB31.out).mono ?_; rintro e w32 ⟨A32, c32, rfl, hr32, hb32⟩; have HR32 := hid hr32; have HB32 := hid (bnext HB31.out hb32); clear hr32; clear hb32))
    clear q0 q1 q3
    clear HFG
    go_upto_region 6 with (fail)
    by_cases hno : fr < 0 ∨ t2 < fr ∨ (ng : Int) < t2
    · have hcs : decide (fr < 0) = true ∨ (decide (fr < 0) = false ∧ decide (t2 < fr) = true) ∨ (decide (fr < 0) = false ∧ decide (t2 < fr) = false ∧ decide ((ng : Int) < t2) = true) := by simp only [decide_eq_true_eq, decide_eq_false_iff_not]; omega
      have HFB2 := hid (HFB.out hno)
      have HN0 := hid (show 0 = ([] : List Nd).length from rfl)
      clear hno HFS HFP HCKK HSMM HFB
      go_cut [43] (fun s wx => s = .bool true ∧ w32 = wx)
      case first =>
        rcases hcs with e1 | ⟨e1, e2⟩ | ⟨e1, e2, e3⟩
        all_goals
          go_wp2_with fail
          go_meet
          exact ⟨rfl, rfl⟩
      obtain ⟨rfl, rfl⟩ := hcut
      clear hcs
      go_upto_region 7 with (fail)
      go_cut [9, 10] (fun s3 s4 wx => ∃ (b : Nat) (A' : Option Addr) (c' : Nat), s3 = .pointer (some ⟨b, 0, none⟩) ∧ s4 = .int .i64 1 ∧ Hid (Bx wx b (.slice A' 0 c')) ∧ Hid (Nds wx wx.heap.size A' ([] : List Nd)) ∧ Hid (Below w32.heap.size w32 wx))
      case first =>
        have q0 := HC0.out w32 HB32.out; have q1 := HC1.out w32 HB32.out; have q3 := HC3.out w32 HB32.out
        have hsb : w1.heap.size ≤ w32.heap.size := HB32.out.size
        go_region_held3 (fun w' => w'.cell? ⟨B0, 0, none⟩ = some (.int .i64 P) ∧ w'.cell? ⟨B0, 1, none⟩ = some (.slice A N c) ∧ w'.cell? ⟨B0, 2, none⟩ = some (.slice A2 n c2)) (first | exact ⟨q0, q1, q3⟩ | exact ⟨HC0.out _ (bnext HB32.out (by first | exact HX52.out | exact bal HX52.out _ | exact HX51.out | exact bal HX51.out _ | exact HX50.out | exact bal HX50.out _ | exact (Below.refl _ _).drew | exact bal (Below.refl _ _).drew _ | exact (bal (Below.refl _ _) _).drew | exact Below.refl _ _ | exact bal (Below.refl _ _) _ | exact bst HX52.out HX51.out.size _ | exact bst HX52.out HX50.out.size _ | exact bst HX52.out HX52.out.size _ | exact bst HX52.out (Nat.le_refl _) _)), HC1.out _ (bnext HB32.out (by first | exact HX52.out | exact bal HX52.out _ | exact HX51.out | exact bal HX51.out _ | exact HX50.out | exact bal HX50.out _ | exact (Below.refl _ _).drew | exact bal (Below.refl _ _).drew _ | exact (bal (Below.refl _ _) _).drew | exact Below.refl _ _ | exact bal (Below.refl _ _) _ | exact bst HX52.out HX51.out.size _ | exact bst HX52.out HX50.out.size _ | exact bst HX52.out HX52.out.size _ | exact bst HX52.out (Nat.le_refl _) _)), HC3.out _ (bnext HB32.out (by first | exact HX52.out | exact bal HX52.out _ | exact HX51.out | exact bal HX51.out _ | exact HX50.out | exact bal HX50.out _ | exact (Below.refl _ _).drew | exact bal (Below.refl _ _).drew _ | exact (bal (Below.refl _ _) _).drew | exact Below.refl _ _ | exact bal (Below.refl _ _) _ | exact bst HX52.out HX51.out.size _ | exact bst HX52.out HX50.out.size _ | exact bst HX52.out HX52.out.size _ | exact bst HX52.out (Nat.le_refl _) _))⟩ | fail) (first | (go_at_call 17; refine (HLI.out _ (bnext HB32.out (by first | exact HX52.out | exact bal HX52.out _ | exact HX51.out | exact bal HX51.out _ | exact HX50.out | exact bal HX50.out _ | exact (Below.refl _ _).drew | exact bal (Below.refl _ _).drew _ | exact (bal (Below.refl _ _) _).drew | exact Below.refl _ _ | exact bal (Below.refl _ _) _ | exact bst HX52.out HX51.out.size _ | exact bst HX52.out HX50.out.size _ | exact bst HX52.out HX52.out.size _ | exact bst HX52.out (Nat.le_refl _) _))).mono ?_; rintro e w50 ⟨A50, c50, ss50, rfl, hl50, hb50⟩; have HL50 := hid hl50; have HX50 := hid (show Below w32.heap.size w32 w50 from bnext (by first | exact HX52.out | exact bal HX52.out _ | exact HX51.out | exact bal HX51.out _ | exact HX50.out | exact bal HX50.out _ | exact (Below.refl _ _).drew | exact bal (Below.refl _ _).drew _ | exact (bal (Below.refl _ _) _).drew | exact Below.refl _ _ | exact bal (Below.refl _ _) _ | exact bst HX52.out HX51.out.size _ | exact bst HX52.out HX50.out.size _ | exact bst HX52.out HX52.out.size _ | exact bst HX52.out (Nat.le_refl _) _) hb50); (first | (have bf := hid (Bxf.kept bf.out hb50); skip) | (have bf := hid (Bxf.kept (Bxf.new (w := w32) (b := w32.heap.size) rfl) hb50)) | (have bf := hid (Bxf.kept (Bxf.new (w := w32.drew) (b := w32.heap.size) rfl) hb50)) | skip); clear hl50 hb50) | (go_at_call 18; refine (HTX.out _ (bnext HB32.out (by first | exact HX52.out | exact bal HX52.out _ | exact HX51.out | exact bal HX51.out _ | exact HX50.out | exact bal HX50.out _ | exact (Below.refl _ _).drew | exact bal (Below.refl _ _).drew _ | exact (bal (Below.refl _ _) _).drew | exact Below.refl _ _ | exact bal (Below.refl _ _) _ | exact bst HX52.out HX51.out.size _ | exact bst HX52.out HX50.out.size _ | exact bst HX52.out HX52.out.size _ | exact bst HX52.out (Nat.le_refl _) _))).mono ?_; rintro e w51 ⟨A51, c51, rfl, ho51, hb51⟩; have HP51 := hid (Copies.mk' (c4 := c51) HL50.out (bnext (by first | exact Below.refl _ _ | exact bal (Below.refl _ _) _) hb51) (by rw [← HNl.out]; exact ho51)); have HX51 := hid (show Below w32.heap.size w32 w51 from bnext (by first | exact HX52.out | exact bal HX52.out _ | exact HX51.out | exact bal HX51.out _ | exact HX50.out | exact bal HX50.out _ | exact (Below.refl _ _).drew | exact bal (Below.refl _ _).drew _ | exact (bal (Below.refl _ _) _).drew | exact Below.refl _ _ | exact bal (Below.refl _ _) _ | exact bst HX52.out HX51.out.size _ | exact bst HX52.out HX50.out.size _ | exact bst HX52.out HX52.out.size _ | exact bst HX52.out (Nat.le_refl _) _) hb51); (first | (have bf := hid (Bxf.kept bf.out hb51); skip) | (have bf := hid (Bxf.kept (Bxf.new (w := w50) (b := w50.heap.size) rfl) hb51)) | (have bf := hid (Bxf.kept (Bxf.new (w := w50.drew) (b := w50.heap.size) rfl) hb51)) | skip); clear ho51 hb51) | (go_at_call 37; refine (HFB2.out _ _ _ _ _ _ (HP51.out.below (by first | exact Below.refl _ _ | exact bal (Below.refl _ _) _)) (bnext HB32.out (by first | exact HX52.out | exact bal HX52.out _ | exact HX51.out | exact bal HX51.out _ | exact HX50.out | exact bal HX50.out _ | exact (Below.refl _ _).drew | exact bal (Below.refl _ _).drew _ | exact (bal (Below.refl _ _) _).drew | exact Below.refl _ _ | exact bal (Below.refl _ _) _ | exact bst HX52.out HX51.out.size _ | exact bst HX52.out HX50.out.size _ | exact bst HX52.out HX52.out.size _ | exact bst HX52.out (Nat.le_refl _) _))).mono ?_; rintro e w52 ⟨A52, c52, rfl, hr52, hb52⟩; have HR52 := hid (show Nds w52 w52.heap.size A52 ([] : List Nd) from Reads.of_own (by rw [← HN0.out]; exact hr52)); (first | (have bo := hid (Bxf.own bf.out hb52 hr52 HN0.out); skip) | (have bo := hid (Bxf.own (Bxf.new (w := w51) (b := w51.heap.size) rfl) hb52 hr52 HN0.out)) | skip); have HX52 := hid (show Below w32.heap.size w32 w52 from bnext (by first | exact HX52.out | exact bal HX52.out _ | exact HX51.out | exact bal HX51.out _ | exact HX50.out | exact bal HX50.out _ | exact (Below.refl _ _).drew | exact bal (Below.refl _ _).drew _ | exact (bal (Below.refl _ _) _).drew | exact Below.refl _ _ | exact bal (Below.refl _ _) _ | exact bst HX52.out HX51.out.size _ | exact bst HX52.out HX50.out.size _ | exact bst HX52.out HX52.out.size _ | exact bst HX52.out (Nat.le_refl _) _) hb52); (first | (have bf := hid (Bxf.kept bf.out hb52); skip) | (have bf := hid (Bxf.kept (Bxf.new (w := w51) (b := w51.heap.size) rfl) hb52)) | (have bf := hid (Bxf.kept (Bxf.new (w := w51.drew) (b := w51.heap.size) rfl) hb52)) | skip); (first | (have bfc := bf.out.cell; have bff := bf.out.free) | skip); clear hr52 hb52))
        all_goals
          go_wp2_with fail
          go_meet
          first
            | exact ⟨_, _, _, rfl, rfl, hid bo.out.1, hid bo.out.2, hid (by first | exact HX52.out | exact bal HX52.out _ | exact HX51.out | exact bal HX51.out _ | exact HX50.out | exact bal HX50.out _ | exact (Below.refl _ _).drew | exact bal (Below.refl _ _).drew _ | exact (bal (Below.refl _ _) _).drew | exact Below.refl _ _ | exact bal (Below.refl _ _) _ | exact bst HX52.out HX51.out.size _ | exact bst HX52.out HX50.out.size _ | exact bst HX52.out HX52.out.size _ | exact bst HX52.out (Nat.le_refl _) _)⟩
            | exact ⟨_, _, _, rfl, rfl, hid (Bx.new rfl), hid (rdn HR52.out (bal (Below.refl _ _) _)), hid (bal HX52.out _)⟩
      obtain ⟨b5, A5, c5, rfl, rfl, BX5, HR5, HX5⟩ := hcut
      obtain ⟨w5, rfl⟩ : ∃ W, W = wc := ⟨_, rfl⟩
      have HB5 := hid (bnext HB32.out HX5.out)
      clear HX5
      have hwk := HWK.out
      go_wp2_with (first | (go_at_call 16; refine (HWK.out _).mono ?_; rintro e w13 ⟨rfl, hb13⟩; have HB13 := hid (bnext HB5.out hb13); clear hb13))
      go_ret
      exact ⟨rfl, HW.out _ HB13.out⟩
    · obtain ⟨f, rfl⟩ : ∃ f : Nat, fr = f := ⟨fr.toNat, by omega⟩
      obtain ⟨t, rfl⟩ : ∃ t : Nat, t2 = t := ⟨t2.toNat, by omega⟩
      have hft : f ≤ t := by omega
      have htg : t ≤ ng := by omega
      have e1 : decide ((f : Int) < 0) = false := decide_eq_false (by omega)
      have e2 : decide ((t : Int) < (f : Int)) = false := decide_eq_false (by omega)
      have e3 : decide ((ng : Int) < (t : Int)) = false := decide_eq_false (by omega)
      have e4 : ¬ ((t : Int) < (f : Int)) := by omega
      have e5 : ¬ ((ng : Int) < (t : Int)) := by omega
      have HFP2 := hid (HFP.out f t hft htg)
      clear hno HFB HFP
      go_cut [43] (fun s wx => s = .bool false ∧ w32 = wx)
      case first =>
        go_wp2_with fail
        go_meet
        exact ⟨rfl, rfl⟩
      obtain ⟨rfl, rfl⟩ := hcut
      clear e1 e2 e3 e4 e5
      go_wp2_with fail
      obtain ⟨B, hB⟩ : ∃ B, B = w32.heap.size := ⟨_, rfl⟩
      have hOS := OutT.start hB
      have hZ2 := HB32.out.size
      rw [← hB] at hZ2 ⊢
      have HOS := hid hOS; have HBb := hid hB
      have HGS := hid fun (W : World) (h : Below B w32 W) (i : Nat) (hi : i < ng) => (show ∃ bb oo, A32 = some ⟨bb, oo, none⟩ ∧ W.cell? ⟨bb, oo + i, none⟩ = some (.int .i64 (posG l i : Int)) from by
        obtain ⟨bb, oo, hA, hbb, hc⟩ := HR32.out.at (by rw [HNZ.out]; omega)
        have hil : i < (kidsOf l (-1)).length := by rw [← HNG.out]; exact hi
        have h1 := hc i (by rw [HNZ.out]; exact hi)
        rw [nth_nz hil, List.getD_eq_getElem?_getD, List.getElem?_eq_getElem hil, Option.getD_some, ← posG_at hil] at h1
        exact ⟨bb, oo, hA, (h.cell (p := ⟨bb, oo + i, none⟩) (by rw [HBb.out]; exact hbb)).trans h1⟩)
      clear hOS hB
      go_loopw [12] (fun iv wr => ∃ (i : Nat) (v : Value), f ≤ i ∧ i ≤ t ∧ iv = .int .i64 i ∧ Hid (OutT B w32 (strG l f i) v wr)) (fun iv _ => t - (intOf iv).toNat)
      case atStart => exact ⟨f, _, by omega, by omega, rfl, by rw [str_0]; exact HOS⟩
      case round =>
        obtain ⟨i, v, hfi, hit, rfl, hO⟩ := hrel
        have hbw : Below w1.heap.size w1 wr := HB32.out.trans (hO.out.bel.mono hZ2)
        have HBr := hid hbw
        by_cases hit2 : i < t
        · have g0 : (i : Int) < (t : Int) := by omega
          obtain ⟨bb, oo, rfl, hgc⟩ := HGS.out wr hO.out.bel i (by omega)
          have hbl := World.block_lt_of_cell? _ _ hgc
          have HFSi := hid (HFS.out i (by omega)); have HCKi := hid (HCKK.out i (by omega))
          obtain ⟨nI, hnI⟩ : ∃ nI, nI = (strG l i (i + 1)).length := ⟨_, rfl⟩
          rw [← hnI] at HFSi HCKi
          have hnI2 : nI ≤ n := by rw [hnI, HNl.out]; exact str_len
          have HNI := hid hnI
          have hst := str_s (l := l) hfi (by rw [← HNG.out]; omega)
          have HST := hid hst
          have HG2 := hid fun (W : World) (h : Below wr.heap.size wr W) => (h.cell (p := ⟨bb, oo + i, none⟩) hbl).trans hgc
          have q8 := hgc
          have g1 : (i : Int) < (ng : Int) := by omega
          have g2 : i < ng := by omega
          have g3 : (0 : Int) ≤ (i : Int) := by omega
          have HOR := hid hO.out
          clear hnI hst hO hbl hgc
          go_upto_region 13 with (fail)
          go_cut [13, 14] (fun s3 s4 wx => ∃ (b : Nat) (A' : Option Addr) (c' : Nat), s3 = .pointer (some ⟨b, 0, none⟩) ∧ s4 = .int .i64 0 ∧ Hid (Bx wx b (.slice A' nI c')) ∧ Hid (Nds wx wx.heap.size A' (strG l i (i + 1))) ∧ Hid (Below wr.heap.size wr wx))
          case first =>
            have q0 := HC0.out wr HBr.out; have q1 := HC1.out wr HBr.out; have q3 := HC3.out wr HBr.out
            have hsb : w1.heap.size ≤ wr.heap.size := HBr.out.size
            go_region_held3 (fun w' => w'.cell? ⟨B0, 0, none⟩ = some (.int .i64 P) ∧ w'.cell? ⟨B0, 1, none⟩ = some (.slice A N c) ∧ w'.cell? ⟨B0, 2, none⟩ = some (.slice A2 n c2) ∧ w'.cell? ⟨bb, oo + i, none⟩ = some (.int .i64 (posG l i : Int))) (first | exact ⟨q0, q1, q3, q8⟩ | exact ⟨HC0.out _ (bnext HBr.out (by first | exact HX132.out | exact bal HX132.out _ | exact HX131.out | exact bal HX131.out _ | exact HX130.out | exact bal HX130.out _ | exact (Below.refl _ _).drew | exact bal (Below.refl _ _).drew _ | exact (bal (Below.refl _ _) _).drew | exact Below.refl _ _ | exact bal (Below.refl _ _) _ | exact bst HX132.out HX131.out.size _ | exact bst HX132.out HX130.out.size _ | exact bst HX132.out HX132.out.size _ | exact bst HX132.out (Nat.le_refl _) _)), HC1.out _ (bnext HBr.out (by first | exact HX132.out | exact bal HX132.out _ | exact HX131.out | exact bal HX131.out _ | exact HX130.out | exact bal HX130.out _ | exact (Below.refl _ _).drew | exact bal (Below.refl _ _).drew _ | exact (bal (Below.refl _ _) _).drew | exact Below.refl _ _ | exact bal (Below.refl _ _) _ | exact bst HX132.out HX131.out.size _ | exact bst HX132.out HX130.out.size _ | exact bst HX132.out HX132.out.size _ | exact bst HX132.out (Nat.le_refl _) _)), HC3.out _ (bnext HBr.out (by first | exact HX132.out | exact bal HX132.out _ | exact HX131.out | exact bal HX131.out _ | exact HX130.out | exact bal HX130.out _ | exact (Below.refl _ _).drew | exact bal (Below.refl _ _).drew _ | exact (bal (Below.refl _ _) _).drew | exact Below.refl _ _ | exact bal (Below.refl _ _) _ | exact bst HX132.out HX131.out.size _ | exact bst HX132.out HX130.out.size _ | exact bst HX132.out HX132.out.size _ | exact bst HX132.out (Nat.le_refl _) _)), HG2.out _ (by first | exact HX132.out | exact bal HX132.out _ | exact HX131.out | exact bal HX131.out _ | exact HX130.out | exact bal HX130.out _ | exact (Below.refl _ _).drew | exact bal (Below.refl _ _).drew _ | exact (bal (Below.refl _ _) _).drew | exact Below.refl _ _ | exact bal (Below.refl _ _) _ | exact bst HX132.out HX131.out.size _ | exact bst HX132.out HX130.out.size _ | exact bst HX132.out HX132.out.size _ | exact bst HX132.out (Nat.le_refl _) _)⟩ | fail) (first | (go_at_call 17; refine (HLI.out _ (bnext HBr.out (by first | exact HX132.out | exact bal HX132.out _ | exact HX131.out | exact bal HX131.out _ | exact HX130.out | exact bal HX130.out _ | exact (Below.refl _ _).drew | exact bal (Below.refl _ _).drew _ | exact (bal (Below.refl _ _) _).drew | exact Below.refl _ _ | exact bal (Below.refl _ _) _ | exact bst HX132.out HX131.out.size _ | exact bst HX132.out HX130.out.size _ | exact bst HX132.out HX132.out.size _ | exact bst HX132.out (Nat.le_refl _) _))).mono ?_; rintro e w130 ⟨A130, c130, ss130, rfl, hl130, hb130⟩; have HL130 := hid hl130; have HX130 := hid (show Below wr.heap.size wr w130 from bnext (by first | exact HX132.out | exact bal HX132.out _ | exact HX131.out | exact bal HX131.out _ | exact HX130.out | exact bal HX130.out _ | exact (Below.refl _ _).drew | exact bal (Below.refl _ _).drew _ | exact (bal (Below.refl _ _) _).drew | exact Below.refl _ _ | exact bal (Below.refl _ _) _ | exact bst HX132.out HX131.out.size _ | exact bst HX132.out HX130.out.size _ | exact bst HX132.out HX132.out.size _ | exact bst HX132.out (Nat.le_refl _) _) hb130); (first | (have bf := hid (Bxf.kept bf.out hb130); skip) | (have bf := hid (Bxf.kept (Bxf.new (w := wr) (b := wr.heap.size) rfl) hb130)) | (have bf := hid (Bxf.kept (Bxf.new (w := wr.drew) (b := wr.heap.size) rfl) hb130)) | skip); clear hl130 hb130) | (go_at_call 18; refine (HTX.out _ (bnext HBr.out (by first | exact HX132.out | exact bal HX132.out _ | exact HX131.out | exact bal HX131.out _ | exact HX130.out | exact bal HX130.out _ | exact (Below.refl _ _).drew | exact bal (Below.refl _ _).drew _ | exact (bal (Below.refl _ _) _).drew | exact Below.refl _ _ | exact bal (Below.refl _ _) _ | exact bst HX132.out HX131.out.size _ | exact bst HX132.out HX130.out.size _ | exact bst HX132.out HX132.out.size _ | exact bst HX132.out (Nat.le_refl _) _))).mono ?_; rintro e w131 ⟨A131, c131, rfl, ho131, hb131⟩; have HP131 := hid (Copies.mk' (c4 := c131) HL130.out (bnext (by first | exact Below.refl _ _ | exact bal (Below.refl _ _) _) hb131) (by rw [← HNl.out]; exact ho131)); have HX131 := hid (show Below wr.heap.size wr w131 from bnext (by first | exact HX132.out | exact bal HX132.out _ | exact HX131.out | exact bal HX131.out _ | exact HX130.out | exact bal HX130.out _ | exact (Below.refl _ _).drew | exact bal (Below.refl _ _).drew _ | exact (bal (Below.refl _ _) _).drew | exact Below.refl _ _ | exact bal (Below.refl _ _) _ | exact bst HX132.out HX131.out.size _ | exact bst HX132.out HX130.out.size _ | exact bst HX132.out HX132.out.size _ | exact bst HX132.out (Nat.le_refl _) _) hb131); (first | (have bf := hid (Bxf.kept bf.out hb131); skip) | (have bf := hid (Bxf.kept (Bxf.new (w := w130) (b := w130.heap.size) rfl) hb131)) | (have bf := hid (Bxf.kept (Bxf.new (w := w130.drew) (b := w130.heap.size) rfl) hb131)) | skip); clear ho131 hb131) | (go_at_call 43; refine (HFSi.out _ _ _ _ _ _ (HP131.out.below (by first | exact Below.refl _ _ | exact bal (Below.refl _ _) _)) (bnext HBr.out (by first | exact HX132.out | exact bal HX132.out _ | exact HX131.out | exact bal HX131.out _ | exact HX130.out | exact bal HX130.out _ | exact (Below.refl _ _).drew | exact bal (Below.refl _ _).drew _ | exact (bal (Below.refl _ _) _).drew | exact Below.refl _ _ | exact bal (Below.refl _ _) _ | exact bst HX132.out HX131.out.size _ | exact bst HX132.out HX130.out.size _ | exact bst HX132.out HX132.out.size _ | exact bst HX132.out (Nat.le_refl _) _))).mono ?_; rintro e w132 ⟨A132, c132, rfl, hr132, hb132⟩; have HR132 := hid (show Nds w132 w132.heap.size A132 (strG l i (i + 1)) from Reads.of_own (by rw [← HNI.out]; exact hr132)); (first | (have bo := hid (Bxf.own bf.out hb132 hr132 HNI.out); skip) | (have bo := hid (Bxf.own (Bxf.new (w := w131) (b := w131.heap.size) rfl) hb132 hr132 HNI.out)) | skip); have HX132 := hid (show Below wr.heap.size wr w132 from bnext (by first | exact HX132.out | exact bal HX132.out _ | exact HX131.out | exact bal HX131.out _ | exact HX130.out | exact bal HX130.out _ | exact (Below.refl _ _).drew | exact bal (Below.refl _ _).drew _ | exact (bal (Below.refl _ _) _).drew | exact Below.refl _ _ | exact bal (Below.refl _ _) _ | exact bst HX132.out HX131.out.size _ | exact bst HX132.out HX130.out.size _ | exact bst HX132.out HX132.out.size _ | exact bst HX132.out (Nat.le_refl _) _) hb132); (first | (have bf := hid (Bxf.kept bf.out hb132); skip) | (have bf := hid (Bxf.kept (Bxf.new (w := w131) (b := w131.heap.size) rfl) hb132)) | (have bf := hid (Bxf.kept (Bxf.new (w := w131.drew) (b := w131.heap.size) rfl) hb132)) | skip); (first | (have bfc := bf.out.cell; have bff := bf.out.free) | skip); clear hr132 hb132))
            all_goals
              go_wp2_with fail
              go_meet
              first
                | exact ⟨_, _, _, rfl, rfl, hid bo.out.1, hid bo.out.2, hid (by first | exact HX132.out | exact bal HX132.out _ | exact HX131.out | exact bal HX131.out _ | exact HX130.out | exact bal HX130.out _ | exact (Below.refl _ _).drew | exact bal (Below.refl _ _).drew _ | exact (bal (Below.refl _ _) _).drew | exact Below.refl _ _ | exact bal (Below.refl _ _) _ | exact bst HX132.out HX131.out.size _ | exact bst HX132.out HX130.out.size _ | exact bst HX132.out HX132.out.size _ | exact bst HX132.out (Nat.le_refl _) _)⟩
                | exact ⟨_, _, _, rfl, rfl, hid (Bx.new rfl), hid (rdn HR132.out (bal (Below.refl _ _) _)), hid (bal HX132.out _)⟩
          obtain ⟨b13, A13, c13, rfl, rfl, BX13, HR13, HX13⟩ := hcut
          obtain ⟨w13, rfl⟩ : ∃ W, W = wc := ⟨_, rfl⟩
          have HB13 := hid (bnext HBr.out HX13.out)
          have q0 := HC0.out w13 HB13.out; have q1 := HC1.out w13 HB13.out
          have x1 := BX13.out.cell
          have HO13 := hid (HOR.out.below HX13.out)
          go_upto_region 16 with (first | (go_at_call 20; refine (HCKi.out A13 c13 w13 HB13.out HR13.out).mono ?_; rintro e w14 ⟨rfl, hb14⟩; have HB14 := hid (bnext HB13.out hb14); have HO14 := hid (HO13.out.below hb14); have HR14 := hid (rdn HR13.out hb14); have BX14 := hid (bxn BX13.out hb14); clear hb14 q0 q1 x1))
          obtain ⟨nS, hnS⟩ : ∃ nS, nS = (strG l f i).length := ⟨_, rfl⟩
          have hO14 := HO14.out
          have hOw := hO14.own
          rw [← hnS] at hOw
          obtain ⟨A5, c5, rfl⟩ := own_slice hOw
          have hoc := hO14.cell
          have pm0 := hoc.1; have zm0 := hoc.2.1
          have x2 := BX14.out.cell
          have hnS2 : nS ≤ n := by rw [hnS, HNl.out]; exact str_len
          have HOw := hid hOw; have HO14' := hid hO14; have HNS := hid hnS
          have HZB := hid (show B + 1 ≤ w14.heap.size from hoc.2.2)
          have HRD := hid (show Reads w14 w14.heap.size 8 A13 nI (flatN (strG l i (i + 1))) from by have := HR14.out; unfold Nds at this; rw [← HNI.out] at this; exact this)
          have hn210 : n ≤ 210 := by rw [HNl.out]; exact s2
          have hsum : nS + nI ≤ 1000000000 := by omega
          clear hnS hO14 hOw hoc HO14
          go_wp2_with (first | (at_builtin; refine app_rdS rfl (.tmp 89) (.tmp 91) Try.underlying25 Try.infoNode rfl (by decide) (by decide) rfl (B + 1) _ nS (flatN (strG l f i)) rfl HOw.out A13 nI c13 w14.heap.size (flatN (strG l i (i + 1))) rfl HRD.out (fun u hu => flatN_one hu) hsum HZB.out ?_; intro v8 w8 ho8 hg8; obtain ⟨p9, z9, ho9⟩ := OutT.stepL HO14'.out (Below.refl _ _) HNS.out HNI.out ho8 hg8; obtain ⟨A8, c8, rfl⟩ := own_slice ho8; have HO9 := hid ho9; clear ho8 hg8 ho9))
          go_roundw
          case rel => exact ⟨i + 1, _, by omega, by omega, by go_num, by rw [HST.out]; exact HO9⟩
          case measure => simp [intOf]; omega
        · obtain rfl : t = i := by omega
          have g0 : decide (t < t) = false := by simp
          obtain ⟨nW, hnW⟩ : ∃ nW, nW = (strG l f t).length := ⟨_, rfl⟩
          have hOw := hO.out.own
          rw [← hnW] at hOw HFP2
          obtain ⟨A5, c5, rfl⟩ := own_slice hOw
          have hoc := hO.out.cell
          have pm0 := hoc.1
          have hblt := hoc.2.2
          have HRW := hid (show Nds wr wr.heap.size A5 (strG l f t) from by unfold Nds; rw [← hnW]; exact Reads.of_own hOw)
          have HB8 := hid fun (W : World) (h : Below wr.heap.size wr W) => (h.cell (p := ⟨B, 0, none⟩) hblt).trans pm0
          have HFPi := hid fun (ss' : List Sg) (A3 A4 : Option Addr) (c3 c4 : Nat) (W : World) (hp : Copies ss l ss' A3 A4 c3 c4 W) (h : Below wr.heap.size wr W) => HFP2.out ss' A3 A4 A5 c3 c4 c5 W hp (rdn HRW.out h)
          clear hnW hOw hoc hO hblt
          go_upto_region 17 with (fail)
          go_cut [15, 16] (fun s3 s4 wx => ∃ (b : Nat) (A' : Option Addr) (c' : Nat), s3 = .pointer (some ⟨b, 0, none⟩) ∧ s4 = .int .i64 0 ∧ Hid (Bx wx b (.slice A' n c')) ∧ Hid (Nds wx wx.heap.size A' l) ∧ Hid (Below wr.heap.size wr wx))
          case first =>
            have q0 := HC0.out wr HBr.out; have q1 := HC1.out wr HBr.out; have q3 := HC3.out wr HBr.out
            have hsb : w1.heap.size ≤ wr.heap.size := HBr.out.size
            go_region_held3 (fun w' => w'.cell? ⟨B0, 0, none⟩ = some (.int .i64 P) ∧ w'.cell? ⟨B0, 1, none⟩ = some (.slice A N c) ∧ w'.cell? ⟨B0, 2, none⟩ = some (.slice A2 n c2) ∧ w'.cell? ⟨B, 0, none⟩ = some (.slice A5 nW c5)) (first | exact ⟨q0, q1, q3, pm0⟩ | exact ⟨HC0.out _ (bnext HBr.out (by first | exact HX172.out | exact bal HX172.out _ | exact HX171.out | exact bal HX171.out _ | exact HX170.out | exact bal HX170.out _ | exact (Below.refl _ _).drew | exact bal (Below.refl _ _).drew _ | exact (bal (Below.refl _ _) _).drew | exact Below.refl _ _ | exact bal (Below.refl _ _) _ | exact bst HX172.out HX171.out.size _ | exact bst HX172.out HX170.out.size _ | exact bst HX172.out HX172.out.size _ | exact bst HX172.out (Nat.le_refl _) _)), HC1.out _ (bnext HBr.out (by first | exact HX172.out | exact bal HX172.out _ | exact HX171.out | exact bal HX171.out _ | exact HX170.out | exact bal HX170.out _ | exact (Below.refl _ _).drew | exact bal (Below.refl _ _).drew _ | exact (bal (Below.refl _ _) _).drew | exact Below.refl _ _ | exact bal (Below.refl _ _) _ | exact bst HX172.out HX171.out.size _ | exact bst HX172.out HX170.out.size _ | exact bst HX172.out HX172.out.size _ | exact bst HX172.out (Nat.le_refl _) _)), HC3.out _ (bnext HBr.out (by first | exact HX172.out | exact bal HX172.out _ | exact HX171.out | exact bal HX171.out _ | exact HX170.out | exact bal HX170.out _ | exact (Below.refl _ _).drew | exact bal (Below.refl _ _).drew _ | exact (bal (Below.refl _ _) _).drew | exact Below.refl _ _ | exact bal (Below.refl _ _) _ | exact bst HX172.out HX171.out.size _ | exact bst HX172.out HX170.out.size _ | exact bst HX172.out HX172.out.size _ | exact bst HX172.out (Nat.le_refl _) _)), HB8.out _ (by first | exact HX172.out | exact bal HX172.out _ | exact HX171.out | exact bal HX171.out _ | exact HX170.out | exact bal HX170.out _ | exact (Below.refl _ _).drew | exact bal (Below.refl _ _).drew _ | exact (bal (Below.refl _ _) _).drew | exact Below.refl _ _ | exact bal (Below.refl _ _) _ | exact bst HX172.out HX171.out.size _ | exact bst HX172.out HX170.out.size _ | exact bst HX172.out HX172.out.size _ | exact bst HX172.out (Nat.le_refl _) _)⟩ | fail) (first | (go_at_call 17; refine (HLI.out _ (bnext HBr.out (by first | exact HX172.out | exact bal HX172.out _ | exact HX171.out | exact bal HX171.out _ | exact HX170.out | exact bal HX170.out _ | exact (Below.refl _ _).drew | exact bal (Below.refl _ _).drew _ | exact (bal (Below.refl _ _) _).drew | exact Below.refl _ _ | exact bal (Below.refl _ _) _ | exact bst HX172.out HX171.out.size _ | exact bst HX172.out HX170.out.size _ | exact bst HX172.out HX172.out.size _ | exact bst HX172.out (Nat.le_refl _) _))).mono ?_; rintro e w170 ⟨A170, c170, ss170, rfl, hl170, hb170⟩; have HL170 := hid hl170; have HX170 := hid (show Below wr.heap.size wr w170 from bnext (by first | exact HX172.out | exact bal HX172.out _ | exact HX171.out | exact bal HX171.out _ | exact HX170.out | exact bal HX170.out _ | exact (Below.refl _ _).drew | exact bal (Below.refl _ _).drew _ | exact (bal (Below.refl _ _) _).drew | exact Below.refl _ _ | exact bal (Below.refl _ _) _ | exact bst HX172.out HX171.out.size _ | exact bst HX172.out HX170.out.size _ | exact bst HX172.out HX172.out.size _ | exact bst HX172.out (Nat.le_refl _) _) hb170); (first | (have bf := hid (Bxf.kept bf.out hb170); skip) | (have bf := hid (Bxf.kept (Bxf.new (w := wr) (b := wr.heap.size) rfl) hb170)) | (have bf := hid (Bxf.kept (Bxf.new (w := wr.drew) (b := wr.heap.size) rfl) hb170)) | skip); clear hl170 hb170) | (go_at_call 18; refine (HTX.out _ (bnext HBr.out (by first | exact HX172.out | exact bal HX172.out _ | exact HX171.out | exact bal HX171.out _ | exact HX170.out | exact bal HX170.out _ | exact (Below.refl _ _).drew | exact bal (Below.refl _ _).drew _ | exact (bal (Below.refl _ _) _).drew | exact Below.refl _ _ | exact bal (Below.refl _ _) _ | exact bst HX172.out HX171.out.size _ | exact bst HX172.out HX170.out.size _ | exact bst HX172.out HX172.out.size _ | exact bst HX172.out (Nat.le_refl _) _))).mono ?_; rintro e w171 ⟨A171, c171, rfl, ho171, hb171⟩; have HP171 := hid (Copies.mk' (c4 := c171) HL170.out (bnext (by first | exact Below.refl _ _ | exact bal (Below.refl _ _) _) hb171) (by rw [← HNl.out]; exact ho171)); have HX171 := hid (show Below wr.heap.size wr w171 from bnext (by first | exact HX172.out | exact bal HX172.out _ | exact HX171.out | exact bal HX171.out _ | exact HX170.out | exact bal HX170.out _ | exact (Below.refl _ _).drew | exact bal (Below.refl _ _).drew _ | exact (bal (Below.refl _ _) _).drew | exact Below.refl _ _ | exact bal (Below.refl _ _) _ | exact bst HX172.out HX171.out.size _ | exact bst HX172.out HX170.out.size _ | exact bst HX172.out HX172.out.size _ | exact bst HX172.out (Nat.le_refl _) _) hb171); (first | (have bf := hid (Bxf.kept bf.out hb171); skip) | (have bf := hid (Bxf.kept (Bxf.new (w := w170) (b := w170.heap.size) rfl) hb171)) | (have bf := hid (Bxf.kept (Bxf.new (w := w170.drew) (b := w170.heap.size) rfl) hb171)) | skip); clear ho171 hb171) | (go_at_call 37; refine (HFPi.out _ _ _ _ _ _ (HP171.out.below (by first | exact Below.refl _ _ | exact bal (Below.refl _ _) _)) (by first | exact HX172.out | exact bal HX172.out _ | exact HX171.out | exact bal HX171.out _ | exact HX170.out | exact bal HX170.out _ | exact (Below.refl _ _).drew | exact bal (Below.refl _ _).drew _ | exact (bal (Below.refl _ _) _).drew | exact Below.refl _ _ | exact bal (Below.refl _ _) _ | exact bst HX172.out HX171.out.size _ | exact bst HX172.out HX170.out.size _ | exact bst HX172.out HX172.out.size _ | exact bst HX172.out (Nat.le_refl _) _)).mono ?_; rintro e w172 ⟨A172, c172, rfl, hr172, hb172⟩; have HR172 := hid (show Nds w172 w172.heap.size A172 l from Reads.of_own (by rw [← HNl.out]; exact hr172)); (first | (have bo := hid (Bxf.own bf.out hb172 hr172 HNl.out); skip) | (have bo := hid (Bxf.own (Bxf.new (w := w171) (b := w171.heap.size) rfl) hb172 hr172 HNl.out)) | skip); have HX172 := hid (show Below wr.heap.size wr w172 from bnext (by first | exact HX172.out | exact bal HX172.out _ | exact HX171.out | exact bal HX171.out _ | exact HX170.out | exact bal HX170.out _ | exact (Below.refl _ _).drew | exact bal (Below.refl _ _).drew _ | exact (bal (Below.refl _ _) _).drew | exact Below.refl _ _ | exact bal (Below.refl _ _) _ | exact bst HX172.out HX171.out.size _ | exact bst HX172.out HX170.out.size _ | exact bst HX172.out HX172.out.size _ | exact bst HX172.out (Nat.le_refl _) _) hb172); (first | (have bf := hid (Bxf.kept bf.out hb172); skip) | (have bf := hid (Bxf.kept (Bxf.new (w := w171) (b := w171.heap.size) rfl) hb172)) | (have bf := hid (Bxf.kept (Bxf.new (w := w171.drew) (b := w171.heap.size) rfl) hb172)) | skip); (first | (have bfc := bf.out.cell; have bff := bf.out.free) | skip); clear hr172 hb172))
            all_goals
              go_wp2_with fail
              go_meet
              first
                | exact ⟨_, _, _, rfl, rfl, hid bo.out.1, hid bo.out.2, hid (by first | exact HX172.out | exact bal HX172.out _ | exact HX171.out | exact bal HX171.out _ | exact HX170.out | exact bal HX170.out _ | exact (Below.refl _ _).drew | exact bal (Below.refl _ _).drew _ | exact (bal (Below.refl _ _) _).drew | exact Below.refl _ _ | exact bal (Below.refl _ _) _ | exact bst HX172.out HX171.out.size _ | exact bst HX172.out HX170.out.size _ | exact bst HX172.out HX172.out.size _ | exact bst HX172.out (Nat.le_refl _) _)⟩
                | exact ⟨_, _, _, rfl, rfl, hid (Bx.new rfl), hid (rdn HR172.out (bal (Below.refl _ _) _)), hid (bal HX172.out _)⟩
          obtain ⟨b17, A17, c17, rfl, rfl, BX17, HR17, HX17⟩ := hcut
          obtain ⟨w17, rfl⟩ : ∃ W, W = wc := ⟨_, rfl⟩
          have HB17 := hid (bnext HBr.out HX17.out)
          clear HX17
          have q3 := HC3.out w17 HB17.out
          have x1 := BX17.out.cell
          have hwk := HWK.out
          go_wp2_with (first | (go_at_call 22; refine (HSMM.out A17 c17 w17 HB17.out HR17.out).mono ?_; rintro e w18 ⟨rfl, hb18⟩; have HB18 := hid (bnext HB17.out hb18); clear hb18 q3 x1) | (go_at_call 16; refine (HWK.out _).mono ?_; rintro e w19 ⟨rfl, hb19⟩; have HB19 := hid (bnext HB18.out hb19); clear hb19))
          go_ret
          exact ⟨rfl, HW.out _ HB19.out⟩
end Go.Proofs.Ytddbnggficlcfaa
