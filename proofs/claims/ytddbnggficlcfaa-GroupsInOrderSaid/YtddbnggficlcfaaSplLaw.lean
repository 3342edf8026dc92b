/- WALK: the law GroupsSplices. -/
import Derived.Test.YtddbnggficlcfaaArgs
import Derived.Test.YtddbnggficlcfaaSplR
import Derived.Test.YtddbnggficlcfaaTextLaw
import Derived.Test.YtddbnggficlcfaaSub
namespace Go.Proofs.Ytddbnggficlcfaa
open Go.RowKit
theorem spE_core {P : Int} {ss ss' : List Sg} (h : ss'.map Sg.core = ss.map Sg.core) (l wt : List Nd) (fr t2 : Int) : spE P ss' l wt fr t2 = spE P ss l wt fr t2 ∧ spL P ss' l wt fr t2 = spL P ss l wt fr t2 := by
  have h1 : spE P ss' l wt fr t2 = spE P ss l wt fr t2 := by unfold spE; rw [chkE_core h, chkE_core h]
  exact ⟨h1, by unfold spL; rw [h1]⟩
theorem spL_len {P : Int} {ss : List Sg} {l wt : List Nd} {fr t2 : Int} : (spL P ss l wt fr t2).length ≤ l.length + wt.length + l.length := by
  unfold spL
  split
  · unfold spO
    rw [List.length_append, List.length_append, List.length_take, List.length_drop]
    omega
  · simp
set_option maxRecDepth 100000 in
set_option maxHeartbeats 8000000 in
theorem splices_law (P : Int) (ss : List Sg) (l : List Nd) (fr t2 : Int) (t : List Nd) (A5 : Option Addr) (c5 : Nat) (A A2 : Option Addr) (c c2 : Nat) (hl : ss.length ≤ 9223372036854775807) (hv : ∀ s ∈ ss, s.vals.length ≤ 9223372036854775807) (htl : t.length ≤ 9223372036854775807) (w : World) (rs : Sgs w w.heap.size A ss) (rn : Nds w w.heap.size A2 l) (rt : Nds w w.heap.size A5 t) :
    Calls Try.prog 6 #[.agg #[.int .i64 P, .slice A ss.length c, .slice A2 l.length c2], .agg #[.int .i64 fr, .int .i64 t2, .slice A5 t.length c5]] w fun e w' => e = .returned (.bool true) ∧ Below w.heap.size w w' := by
  obtain ⟨r1, hr1⟩ : ∃ x : Bool, (x = true ↔ BigP ss l) := by
    by_cases h : BigP ss l
    · exact ⟨true, iff_of_true rfl h⟩
    · exact ⟨false, iff_of_false (by simp) h⟩
  have hsm := fun h : ¬ BigP ss l => small_of h
  obtain ⟨w1, hw1⟩ : ∃ w1, w1 = (w.alloc (.cells #[.int .i64 P, .slice A ss.length c, .slice A2 l.length c2] 29)).alloc (.cells #[.int .i64 fr, .int .i64 t2, .slice A5 t.length c5] 57) := ⟨_, rfl⟩
  have hb1 : Below w.heap.size w w1 := by rw [hw1]; exact ((Below.refl _ _).alloc (Nat.le_refl _) _).alloc (by simp) _
  have hz2 : w.heap.size + 1 < w1.heap.size := by rw [hw1]; simp
  have hz1 : w.heap.size < w1.heap.size := by omega
  have c0 : w1.cell? ⟨w.heap.size, 0, none⟩ = some (.int .i64 P) := by rw [hw1]; exact cell_old (cell_here rfl rfl)
  have c1 : w1.cell? ⟨w.heap.size, 1, none⟩ = some (.slice A ss.length c) := by rw [hw1]; exact cell_old (cell_here rfl rfl)
  have c3 : w1.cell? ⟨w.heap.size, 2, none⟩ = some (.slice A2 l.length c2) := by rw [hw1]; exact cell_old (cell_here rfl rfl)
  have c5' : w1.cell? ⟨w.heap.size + 1, 2, none⟩ = some (.slice A5 t.length c5) := by rw [hw1]; exact cell_here (by simp) rfl
  have c6' : w1.cell? ⟨w.heap.size + 1, 0, none⟩ = some (.int .i64 fr) := by rw [hw1]; exact cell_here (by simp) rfl
  have c7' : w1.cell? ⟨w.heap.size + 1, 1, none⟩ = some (.int .i64 t2) := by rw [hw1]; exact cell_here (by simp) rfl
  have HBG := hid ((bigP_any P ss l A A2 c c2 hl hv w1 ((rs.below hb1).more hb1.size)).mono fun e w' hb => hb.get hr1)
  have hF1 := fun (s1 : ss.length ≤ 30) (s2 : l.length ≤ 210) (s3 : ∀ s ∈ ss, s.vals.length ≤ 20) (ht : t.length ≤ 210) (ss' : List Sg) (A3 A4 A6 : Option Addr) (c3 c4 c6 : Nat) (W : World) (hp : Copies ss l ss' A3 A4 c3 c4 W) (rt : Nds W W.heap.size A6 t) =>
    (by have := spliceE_any P ss' l t fr t2 (by rw [hp.len]; omega) (hp.vals s3) (by omega) (by omega) A3 A4 A6 c3 c4 c6 W hp.sg hp.nd rt hp.room; rw [(spE_core hp.core l t fr t2).1, (spE_core hp.core l t fr t2).2] at this; exact this.mono fun e w' h => txt_own h : Calls Try.prog 37 #[.agg #[.int .i64 P, .slice A3 ss'.length c3], .agg #[.slice A4 l.length c4], .int .i64 fr, .int .i64 t2, .agg #[.slice A6 t.length c6]] W fun e w' => ∃ (A' : Option Addr) (c' : Nat), e = .returned (.tuple #[.agg #[.slice A' (spL P ss l t fr t2).length c'], .int .i64 (spE P ss l t fr t2)]) ∧ w'.ownsRow W.heap.size 78 8 (.slice A' (spL P ss l t fr t2).length c') (spL P ss l t fr t2).length (flatN (spL P ss l t fr t2)) ∧ Below W.heap.size W w')
  have hG1 := fun (s1 : ss.length ≤ 30) (s2 : l.length ≤ 210) (s3 : ∀ s ∈ ss, s.vals.length ≤ 20) (ht : t.length ≤ 210) (W : World) (h : Below w1.heap.size w1 W) =>
    (refSplice_any P ss l t fr t2 (by omega) (fun s hs => by have := s3 s hs; omega) (by omega) (by omega) A A2 A5 c c2 c5 W ((rs.below (hb1.trans (h.mono hb1.size))).more (Nat.le_trans hb1.size h.size)) ((rn.below (hb1.trans (h.mono hb1.size))).more (Nat.le_trans hb1.size h.size)) ((rt.below (hb1.trans (h.mono hb1.size))).more (Nat.le_trans hb1.size h.size))).mono fun e w' h => txt_out h
  have hCT := fun (ht : t.length ≤ 210) (W : World) (h : Below w1.heap.size w1 W) => copyText_any t A5 c5 (by omega) W ((rt.below (hb1.trans (h.mono hb1.size))).more (Nat.le_trans hb1.size h.size))
  have hk1 := spL_len (P := P) (ss := ss) (l := l) (wt := t) (fr := fr) (t2 := t2)
  generalize spE P ss l t fr t2 = E1 at hF1 hG1
  generalize spL P ss l t fr t2 = L1 at hF1 hG1 hk1
  have hrt := rt
  obtain ⟨nt, hnt⟩ : ∃ n, n = t.length := ⟨_, rfl⟩
  rw [← hnt] at c5' hw1 htl ⊢
  have HNT := hid hnt
  clear hnt rt hrt
  have hrs := rs; have hrn := rn
  obtain ⟨N, hN⟩ : ∃ N, N = ss.length := ⟨_, rfl⟩
  obtain ⟨n, hn⟩ : ∃ n, n = l.length := ⟨_, rfl⟩
  rw [← hN] at c1 hw1 HBG ⊢
  rw [← hn] at c3 hw1 HBG ⊢
  have HW1 := hid hw1; have HB1 := hid hb1; have HSM := hid hsm; have HR1 := hid hr1; have HNN := hid hN; have HNl := hid hn; have HRS := hid hrs; have HRN := hid hrn
  have HF1 := hid hF1; have HG1 := hid hG1; have HCT := hid hCT; have HK1 := hid hk1
  have HC5 := hid fun (wr : World) (h : Below w1.heap.size w1 wr) => (h.cell (p := ⟨w.heap.size + 1, 2, none⟩) hz2).trans c5'
  have HC6 := hid fun (wr : World) (h : Below w1.heap.size w1 wr) => (h.cell (p := ⟨w.heap.size + 1, 0, none⟩) hz2).trans c6'
  have HC7 := hid fun (wr : World) (h : Below w1.heap.size w1 wr) => (h.cell (p := ⟨w.heap.size + 1, 1, none⟩) hz2).trans c7'
  clear hF1 hG1 hCT hk1
  have HW : Hid (∀ wr, Below w1.heap.size w1 wr → Below w.heap.size w wr) := fun wr h => hb1.trans (h.mono (by omega))
  have HWK := hid fun (W : World) => works_any W
  have HC0 := hid fun (wr : World) (h : Below w1.heap.size w1 wr) => (h.cell (p := ⟨w.heap.size, 0, none⟩) hz1).trans c0
  have HC1 := hid fun (wr : World) (h : Below w1.heap.size w1 wr) => (h.cell (p := ⟨w.heap.size, 1, none⟩) hz1).trans c1
  have HC3 := hid fun (wr : World) (h : Below w1.heap.size w1 wr) => (h.cell (p := ⟨w.heap.size, 2, none⟩) hz1).trans c3
  clear hw1 rs rn hsm hr1 hN hn hv hl hb1 hrs hrn
  go_enter Try.func6, Try.ntmps6
  go_upto_region 1 with (fail)
  rw [← HW1.out]
  clear HW1
  obtain ⟨B0, hB0⟩ : ∃ B0, B0 = w.heap.size := ⟨_, rfl⟩
  obtain ⟨B1, hB1⟩ : ∃ B1, B1 = B0 + 1 := ⟨_, rfl⟩
  rw [← hB0, ← hB1] at c5' c6' c7' hz2 HC5 HC6 HC7
  rw [← hB0] at c0 c1 c3 hz1 HC0 HC1 HC3
  rw [← hB0, ← hB1]
  clear hB0 hB1
  cases r1 with
  | true =>
    clear htl
    go_wp2_with (first | (go_at_call 15; refine HBG.out.mono ?_; rintro e w2 ⟨rfl, hb2⟩; have HB2 := hid hb2; clear hb2 c0 c1 c3 c5' c6' c7') | (go_at_call 16; refine (HWK.out _).mono ?_; rintro e w3 ⟨rfl, hb3⟩; have HB3 := hid (bnext HB2.out hb3); clear hb3))
    go_ret
    exact ⟨rfl, HW.out _ HB3.out⟩
  | false =>
    obtain ⟨s1, s2, s3⟩ := HSM.out (fun h => by have := HR1.out.2 h; cases this)
    have HLI := hid fun (W : World) (h : Below w1.heap.size w1 W) => list_at (P := P) (c := c) (V := .slice A2 n c2) s1 s3 (HW.out _ (Below.refl _ _)) HRS.out W h
    have HTX := hid fun (W : World) (h : Below w1.heap.size w1 W) => text_at (P := P) (A := A) (N := N) (c := c) (c2 := c2) s2 (HW.out _ (Below.refl _ _)) HRN.out W h
    rw [← HNN.out] at HLI
    rw [← HNl.out] at HTX
    rcases Nat.lt_or_ge 210 nt with ht | ht
    · have g0 : decide ((210 : Int) < (nt : Int)) = true := decide_eq_true (by omega)
      clear ht HF1 HG1 HCT HK1
      go_wp2_with (first | (go_at_call 15; refine HBG.out.mono ?_; rintro e w2 ⟨rfl, hb2⟩; have HB2 := hid hb2; have q5 := HC5.out _ hb2; clear hb2 c0 c1 c3 c5' c6' c7') | (go_at_call 16; refine (HWK.out _).mono ?_; rintro e w3 ⟨rfl, hb3⟩; have HB3 := hid (bnext HB2.out hb3); clear hb3))
      go_ret
      exact ⟨rfl, HW.out _ HB3.out⟩
    have g0 : decide ((210 : Int) < (nt : Int)) = false := decide_eq_false (by omega)
    have ht2 : t.length ≤ 210 := by rw [← HNT.out]; exact ht
    replace HF1 := hid (HF1.out s1 s2 s3 ht2); replace HG1 := hid (HG1.out s1 s2 s3 ht2); replace HCT := hid (HCT.out ht2)
    rw [← HNl.out, ← HNT.out] at HF1 HG1
    rw [← HNN.out] at HG1
    rw [← HNT.out] at HCT
    have hk1 := HK1.out
    obtain ⟨n1, hn1⟩ : ∃ n1, n1 = L1.length := ⟨_, rfl⟩
    rw [← hn1] at HF1 HG1 hk1
    have HN1 := hid hn1
    have hs1 : n1 ≤ 1000000 := by omega
    clear hk1 hn1
    clear ht ht2 htl
    go_upto_region 3 with (first | (go_at_call 15; refine HBG.out.mono ?_; rintro e w2 ⟨rfl, hb2⟩; have HB2 := hid hb2; have q5 := HC5.out _ hb2; clear hb2 c0 c1 c3 c5' c6' c7'))
    clear q5
    go_cut [5, 6] (fun s3 s4 wx => ∃ (b : Nat) (A' : Option Addr) (c' : Nat), s3 = .pointer (some ⟨b, 0, none⟩) ∧ s4 = .int .i64 E1 ∧ Hid (Bx wx b (.slice A' n1 c')) ∧ Hid (Nds wx wx.heap.size A' L1) ∧ Hid (Below w2.heap.size w2 wx))
    case first =>
      have q0 := HC0.out w2 HB2.out; have q1 := HC1.out w2 HB2.out; have q3 := HC3.out w2 HB2.out; have q5 := HC5.out w2 HB2.out; have q6 := HC6.out w2 HB2.out; have q7 := HC7.out w2 HB2.out
      have hsb : w1.heap.size ≤ w2.heap.size := HB2.out.size
      go_region_held3 (fun w' => w'.cell? ⟨B0, 0, none⟩ = some (.int .i64 P) ∧ w'.cell? ⟨B0, 1, none⟩ = some (.slice A N c) ∧ w'.cell? ⟨B0, 2, none⟩ = some (.slice A2 n c2) ∧ w'.cell? ⟨B1, 0, none⟩ = some (.int .i64 fr) ∧ w'.cell? ⟨B1, 1, none⟩ = some (.int .i64 t2) ∧ w'.cell? ⟨B1, 2, none⟩ = some (.slice A5 nt c5)) (first | exact ⟨q0, q1, q3, q6, q7, q5⟩ | exact ⟨HC0.out _ (bnext HB2.out (by first | exact HX33.out | exact bal HX33.out _ | exact HX32.out | exact bal HX32.out _ | exact HX31.out | exact bal HX31.out _ | exact HX30.out | exact bal HX30.out _ | exact (Below.refl _ _).drew | exact bal (Below.refl _ _).drew _ | exact (bal (Below.refl _ _) _).drew | exact Below.refl _ _ | exact bal (Below.refl _ _) _ | exact bst HX32.out HX31.out.size _ | exact bst HX32.out HX33.out.size _ | exact bst HX32.out HX30.out.size _ | exact bst HX32.out HX32.out.size _ | exact bst HX32.out (Nat.le_refl _) _)), HC1.out _ (bnext HB2.out (by first | exact HX33.out | exact bal HX33.out _ | exact HX32.out | exact bal HX32.out _ | exact HX31.out | exact bal HX31.out _ | exact HX30.out | exact bal HX30.out _ | exact (Below.refl _ _).drew | exact bal (Below.refl _ _).drew _ | exact (bal (Below.refl _ _) _).drew | exact Below.refl _ _ | exact bal (Below.refl _ _) _ | exact bst HX32.out HX31.out.size _ | exact bst HX32.out HX33.out.size _ | exact bst HX32.out HX30.out.size _ | exact bst HX32.out HX32.out.size _ | exact bst HX32.out (Nat.le_refl _) _)), HC3.out _ (bnext HB2.out (by first | exact HX33.out | exact bal HX33.out _ | exact HX32.out | exact bal HX32.out _ | exact HX31.out | exact bal HX31.out _ | exact HX30.out | exact bal HX30.out _ | exact (Below.refl _ _).drew | exact bal (Below.refl _ _).drew _ | exact (bal (Below.refl _ _) _).drew | exact Below.refl _ _ | exact bal (Below.refl _ _) _ | exact bst HX32.out HX31.out.size _ | exact bst HX32.out HX33.out.size _ | exact bst HX32.out HX30.out.size _ | exact bst HX32.out HX32.out.size _ | exact bst HX32.out (Nat.le_refl _) _)), HC6.out _ (bnext HB2.out (by first | exact HX33.out | exact bal HX33.out _ | exact HX32.out | exact bal HX32.out _ | exact HX31.out | exact bal HX31.out _ | exact HX30.out | exact bal HX30.out _ | exact (Below.refl _ _).drew | exact bal (Below.refl _ _).drew _ | exact (bal (Below.refl _ _) _).drew | exact Below.refl _ _ | exact bal (Below.refl _ _) _ | exact bst HX32.out HX31.out.size _ | exact bst HX32.out HX33.out.size _ | exact bst HX32.out HX30.out.size _ | exact bst HX32.out HX32.out.size _ | exact bst HX32.out (Nat.le_refl _) _)), HC7.out _ (bnext HB2.out (by first | exact HX33.out | exact bal HX33.out _ | exact HX32.out | exact bal HX32.out _ | exact HX31.out | exact bal HX31.out _ | exact HX30.out | exact bal HX30.out _ | exact (Below.refl _ _).drew | exact bal (Below.refl _ _).drew _ | exact (bal (Below.refl _ _) _).drew | exact Below.refl _ _ | exact bal (Below.refl _ _) _ | exact bst HX32.out HX31.out.size _ | exact bst HX32.out HX33.out.size _ | exact bst HX32.out HX30.out.size _ | exact bst HX32.out HX32.out.size _ | exact bst HX32.out (Nat.le_refl _) _)), HC5.out _ (bnext HB2.out (by first | exact HX33.out | exact bal HX33.out _ | exact HX32.out | exact bal HX32.out _ | exact HX31.out | exact bal HX31.out _ | exact HX30.out | exact bal HX30.out _ | exact (Below.refl _ _).drew | exact bal (Below.refl _ _).drew _ | exact (bal (Below.refl _ _) _).drew | exact Below.refl _ _ | exact bal (Below.refl _ _) _ | exact bst HX32.out HX31.out.size _ | exact bst HX32.out HX33.out.size _ | exact bst HX32.out HX30.out.size _ | exact bst HX32.out HX32.out.size _ | exact bst HX32.out (Nat.le_refl _) _))⟩ | fail) (first | (go_at_call 17; refine (HLI.out _ (bnext HB2.out (by first | exact HX33.out | exact bal HX33.out _ | exact HX32.out | exact bal HX32.out _ | exact HX31.out | exact bal HX31.out _ | exact HX30.out | exact bal HX30.out _ | exact (Below.refl _ _).drew | exact bal (Below.refl _ _).drew _ | exact (bal (Below.refl _ _) _).drew | exact Below.refl _ _ | exact bal (Below.refl _ _) _ | exact bst HX32.out HX31.out.size _ | exact bst HX32.out HX33.out.size _ | exact bst HX32.out HX30.out.size _ | exact bst HX32.out HX32.out.size _ | exact bst HX32.out (Nat.le_refl _) _))).mono ?_; rintro e w30 ⟨A30, c30, ss30, rfl, hl30, hb30⟩; have HL30 := hid hl30; have HX30 := hid (show Below w2.heap.size w2 w30 from bnext (by first | exact HX33.out | exact bal HX33.out _ | exact HX32.out | exact bal HX32.out _ | exact HX31.out | exact bal HX31.out _ | exact HX30.out | exact bal HX30.out _ | exact (Below.refl _ _).drew | exact bal (Below.refl _ _).drew _ | exact (bal (Below.refl _ _) _).drew | exact Below.refl _ _ | exact bal (Below.refl _ _) _ | exact bst HX32.out HX31.out.size _ | exact bst HX32.out HX33.out.size _ | exact bst HX32.out HX30.out.size _ | exact bst HX32.out HX32.out.size _ | exact bst HX32.out (Nat.le_refl _) _) hb30); (first | (have bf := hid (Bxf.kept bf.out hb30); skip) | (have bf := hid (Bxf.kept (Bxf.new (w := w2) (b := w2.heap.size) rfl) hb30)) | (have bf := hid (Bxf.kept (Bxf.new (w := w2.drew) (b := w2.heap.size) rfl) hb30)) | skip); clear hl30 hb30) | (go_at_call 18; refine (HTX.out _ (bnext HB2.out (by first | exact HX33.out | exact bal HX33.out _ | exact HX32.out | exact bal HX32.out _ | exact HX31.out | exact bal HX31.out _ | exact HX30.out | exact bal HX30.out _ | exact (Below.refl _ _).drew | exact bal (Below.refl _ _).drew _ | exact (bal (Below.refl _ _) _).drew | exact Below.refl _ _ | exact bal (Below.refl _ _) _ | exact bst HX32.out HX31.out.size _ | exact bst HX32.out HX33.out.size _ | exact bst HX32.out HX30.out.size _ | exact bst HX32.out HX32.out.size _ | exact bst HX32.out (Nat.le_refl _) _))).mono ?_; rintro e w31 ⟨A31, c31, rfl, ho31, hb31⟩; have HP31 := hid (Copies.mk' (c4 := c31) HL30.out (bnext (by first | exact Below.refl _ _ | exact bal (Below.refl _ _) _) hb31) (by rw [← HNl.out]; exact ho31)); have HX31 := hid (show Below w2.heap.size w2 w31 from bnext (by first | exact HX33.out | exact bal HX33.out _ | exact HX32.out | exact bal HX32.out _ | exact HX31.out | exact bal HX31.out _ | exact HX30.out | exact bal HX30.out _ | exact (Below.refl _ _).drew | exact bal (Below.refl _ _).drew _ | exact (bal (Below.refl _ _) _).drew | exact Below.refl _ _ | exact bal (Below.refl _ _) _ | exact bst HX32.out HX31.out.size _ | exact bst HX32.out HX33.out.size _ | exact bst HX32.out HX30.out.size _ | exact bst HX32.out HX32.out.size _ | exact bst HX32.out (Nat.le_refl _) _) hb31); (first | (have bf := hid (Bxf.kept bf.out hb31); skip) | (have bf := hid (Bxf.kept (Bxf.new (w := w30) (b := w30.heap.size) rfl) hb31)) | (have bf := hid (Bxf.kept (Bxf.new (w := w30.drew) (b := w30.heap.size) rfl) hb31)) | skip); clear ho31 hb31) | (go_at_call 38; refine (HCT.out _ (bnext HB2.out (by first | exact HX33.out | exact bal HX33.out _ | exact HX32.out | exact bal HX32.out _ | exact HX31.out | exact bal HX31.out _ | exact HX30.out | exact bal HX30.out _ | exact (Below.refl _ _).drew | exact bal (Below.refl _ _).drew _ | exact (bal (Below.refl _ _) _).drew | exact Below.refl _ _ | exact bal (Below.refl _ _) _ | exact bst HX32.out HX31.out.size _ | exact bst HX32.out HX33.out.size _ | exact bst HX32.out HX30.out.size _ | exact bst HX32.out HX32.out.size _ | exact bst HX32.out (Nat.le_refl _) _))).mono ?_; rintro e w33 ⟨A33, c33, rfl, ho33, hb33⟩; have HT33 := hid (show Nds w33 w33.heap.size A33 t from Reads.of_own (by rw [← HNT.out]; exact ho33)); have HP33 := hid (HP31.out.below (bnext (by first | exact Below.refl _ _ | exact bal (Below.refl _ _) _) hb33)); have HX33 := hid (show Below w2.heap.size w2 w33 from bnext (by first | exact HX33.out | exact bal HX33.out _ | exact HX32.out | exact bal HX32.out _ | exact HX31.out | exact bal HX31.out _ | exact HX30.out | exact bal HX30.out _ | exact (Below.refl _ _).drew | exact bal (Below.refl _ _).drew _ | exact (bal (Below.refl _ _) _).drew | exact Below.refl _ _ | exact bal (Below.refl _ _) _ | exact bst HX32.out HX31.out.size _ | exact bst HX32.out HX33.out.size _ | exact bst HX32.out HX30.out.size _ | exact bst HX32.out HX32.out.size _ | exact bst HX32.out (Nat.le_refl _) _) hb33); (first | (have bf := hid (Bxf.kept bf.out hb33); skip) | (have bf := hid (Bxf.kept (Bxf.new (w := w31) (b := w31.heap.size) rfl) hb33)) | (have bf := hid (Bxf.kept (Bxf.new (w := w31.drew) (b := w31.heap.size) rfl) hb33)) | skip); clear ho33 hb33) | (go_at_call 37; refine (HF1.out _ _ _ _ _ _ _ _ (HP33.out.below (by first | exact Below.refl _ _ | exact bal (Below.refl _ _) _)) (rdn HT33.out (by first | exact Below.refl _ _ | exact bal (Below.refl _ _) _))).mono ?_; rintro e w32 ⟨A32, c32, rfl, hr32, hb32⟩; have HR32 := hid (show Nds w32 w32.heap.size A32 L1 from Reads.of_own (by rw [← HN1.out]; exact hr32)); (first | (have bo := hid (Bxf.own bf.out hb32 hr32 HN1.out); skip) | (have bo := hid (Bxf.own (Bxf.new (w := w33) (b := w33.heap.size) rfl) hb32 hr32 HN1.out)) | skip); have HX32 := hid (show Below w2.heap.size w2 w32 from bnext (by first | exact HX33.out | exact bal HX33.out _ | exact HX32.out | exact bal HX32.out _ | exact HX31.out | exact bal HX31.out _ | exact HX30.out | exact bal HX30.out _ | exact (Below.refl _ _).drew | exact bal (Below.refl _ _).drew _ | exact (bal (Below.refl _ _) _).drew | exact Below.refl _ _ | exact bal (Below.refl _ _) _ | exact bst HX32.out HX31.out.size _ | exact bst HX32.out HX33.out.size _ | exact bst HX32.out HX30.out.size _ | exact bst HX32.out HX32.out.size _ | exact bst HX32.out (Nat.le_refl _) _) hb32); (first | (have bf := hid (Bxf.kept bf.out hb32); skip) | (have bf := hid (Bxf.kept (Bxf.new (w := w33) (b := w33.heap.size) rfl) hb32)) | (have bf := hid (Bxf.kept (Bxf.new (w := w33.drew) (b := w33.heap.size) rfl) hb32)) | skip); (first | (have bfc := bf.out.cell; have bff := bf.out.free) | skip); clear hr32 hb32))
      all_goals
        go_wp2_with fail
        go_meet
        first
          | exact ⟨_, _, _, rfl, rfl, hid bo.out.1, hid bo.out.2, hid (by first | exact HX33.out | exact bal HX33.out _ | exact HX32.out | exact bal HX32.out _ | exact HX31.out | exact bal HX31.out _ | exact HX30.out | exact bal HX30.out _ | exact (Below.refl _ _).drew | exact bal (Below.refl _ _).drew _ | exact (bal (Below.refl _ _) _).drew | exact Below.refl _ _ | exact bal (Below.refl _ _) _ | exact bst HX32.out HX31.out.size _ | exact bst HX32.out HX33.out.size _ | exact bst HX32.out HX30.out.size _ | exact bst HX32.out HX32.out.size _ | exact bst HX32.out (Nat.le_refl _) _)⟩
          | exact ⟨_, _, _, rfl, rfl, hid (Bx.new rfl), hid (rdn HR32.out (bal (Below.refl _ _) _)), hid (bal HX32.out _)⟩
    obtain ⟨b3, A3, c3, rfl, rfl, BX3, HR3, HX3⟩ := hcut
    obtain ⟨w3, rfl⟩ : ∃ W, W = wc := ⟨_, rfl⟩
    have HB3 := hid (bnext HB2.out HX3.out)
    clear HX3
    have q0 := HC0.out w3 HB3.out; have q1 := HC1.out w3 HB3.out; have q3 := HC3.out w3 HB3.out; have q5 := HC5.out w3 HB3.out; have q6 := HC6.out w3 HB3.out; have q7 := HC7.out w3 HB3.out
    go_upto_region 5 with (first | (go_at_call 39; refine (HG1.out _ HB3.out).mono ?_; rintro e w4 ⟨A4, c4, rfl, hr4, hb4⟩; have HR4 := hid hr4; have HB4 := hid (bnext HB3.out hb4); replace HR3 := hid (rdn HR3.out hb4); replace BX3 := hid (bxn BX3.out hb4); clear hr4 hb4 q0 q1 q3 q5 q6 q7))
    obtain ⟨w43, hw43⟩ : ∃ W, W = w4.alloc (.cells #[.slice A4 n1 c4] 27) := ⟨_, rfl⟩
    obtain ⟨b43, hb43⟩ : ∃ b, b = w4.heap.size := ⟨_, rfl⟩
    have hA : Below w4.heap.size w4 w43 := by rw [hw43]; exact (Below.refl _ _).alloc (Nat.le_refl _) _
    have BX43 := hid (show Bx w43 b43 (.slice A4 n1 c4) from by rw [hw43]; exact Bx.new hb43)
    rw [← hw43, ← hb43]
    have HB43 := hid (bnext HB4.out hA); replace HR3 := hid (rdn HR3.out hA); replace BX3 := hid (bxn BX3.out hA); replace HR4 := hid (rdn HR4.out hA); clear hA hw43 hb43
    have hwk := HWK.out
    have HS1 := hid (txt_same n1 HN1.out hs1 c3 c4 HR3.out HR4.out)
    have x1 := BX3.out.cell; have x2 := BX43.out.cell
    go_wp2_with (first | (go_at_call 22; refine HS1.out.mono ?_; rintro e w9 ⟨rfl, hb9⟩; have HB9 := hid (bnext HB43.out hb9); clear hb9 HS1 x1 x2) | (go_at_call 16; refine (HWK.out _).mono ?_; rintro e w13 ⟨rfl, hb13⟩; have HB13 := hid (bnext HB9.out hb13); clear hb13))
    go_ret
    exact ⟨rfl, HW.out _ HB13.out⟩
end Go.Proofs.Ytddbnggficlcfaa

/- WALK: the law GroupsSubs. -/
namespace Go.Proofs.Ytddbnggficlcfaa
open Go.RowKit
theorem subE_core {P : Int} {ss ss' : List Sg} (h : ss'.map Sg.core = ss.map Sg.core) (l : List Nd) (node : Int) : subE P ss' l node = subE P ss l node ∧ subL P ss' l node = subL P ss l node := by
  have h1 : subE P ss' l node = subE P ss l node := by unfold subE; rw [chkE_core h]
  exact ⟨h1, by unfold subL; rw [h1]⟩
set_option maxRecDepth 100000 in
set_option maxHeartbeats 8000000 in
theorem subs_law (P : Int) (ss : List Sg) (l : List Nd) (node : Int) (A A2 : Option Addr) (c c2 : Nat) (hl : ss.length ≤ 9223372036854775807) (hv : ∀ s ∈ ss, s.vals.length ≤ 9223372036854775807) (w : World) (rs : Sgs w w.heap.size A ss) (rn : Nds w w.heap.size A2 l) :
    Calls Try.prog 8 #[.agg #[.int .i64 P, .slice A ss.length c, .slice A2 l.length c2], .int .i64 node] w fun e w' => e = .returned (.bool true) ∧ Below w.heap.size w w' := by
  obtain ⟨r1, hr1⟩ : ∃ x : Bool, (x = true ↔ BigP ss l) := by
    by_cases h : BigP ss l
    · exact ⟨true, iff_of_true rfl h⟩
    · exact ⟨false, iff_of_false (by simp) h⟩
  have hsm := fun h : ¬ BigP ss l => small_of h
  obtain ⟨w1, hw1⟩ : ∃ w1, w1 = w.alloc (.cells #[.int .i64 P, .slice A ss.length c, .slice A2 l.length c2] 29) := ⟨_, rfl⟩
  have hb1 : Below w.heap.size w w1 := by rw [hw1]; exact (Below.refl _ _).alloc (Nat.le_refl _) _
  have hz1 : w.heap.size < w1.heap.size := by rw [hw1]; simp
  have c0 : w1.cell? ⟨w.heap.size, 0, none⟩ = some (.int .i64 P) := by rw [hw1]; exact cell_here rfl rfl
  have c1 : w1.cell? ⟨w.heap.size, 1, none⟩ = some (.slice A ss.length c) := by rw [hw1]; exact cell_here rfl rfl
  have c3 : w1.cell? ⟨w.heap.size, 2, none⟩ = some (.slice A2 l.length c2) := by rw [hw1]; exact cell_here rfl rfl
  have HBG := hid ((bigP_any P ss l A A2 c c2 hl hv w1 ((rs.below hb1).more hb1.size)).mono fun e w' hb => hb.get hr1)
  have hF1 := fun (s1 : ss.length ≤ 30) (s2 : l.length ≤ 210) (s3 : ∀ s ∈ ss, s.vals.length ≤ 20) (ss' : List Sg) (A3 A4 : Option Addr) (c3 c4 : Nat) (W : World) (hp : Copies ss l ss' A3 A4 c3 c4 W) (h : Below w1.heap.size w1 W) =>
    (by have := subE_any P ss' l node (by rw [hp.len]; omega) (hp.vals s3) (by omega) A3 A4 c3 c4 W hp.sg hp.nd hp.room; rw [(subE_core hp.core l node).1, (subE_core hp.core l node).2] at this; exact this.mono fun e w' hx => txt_own hx : Calls Try.prog 43 #[.agg #[.int .i64 P, .slice A3 ss'.length c3], .agg #[.slice A4 l.length c4], .int .i64 node] W fun e w' => ∃ (A' : Option Addr) (c' : Nat), e = .returned (.tuple #[.agg #[.slice A' (subL P ss l node).length c'], .int .i64 (subE P ss l node)]) ∧ w'.ownsRow W.heap.size 78 8 (.slice A' (subL P ss l node).length c') (subL P ss l node).length (flatN (subL P ss l node)) ∧ Below W.heap.size W w')
  have hG1 := fun (s1 : ss.length ≤ 30) (s2 : l.length ≤ 210) (s3 : ∀ s ∈ ss, s.vals.length ≤ 20) (W : World) (h : Below w1.heap.size w1 W) =>
    (refSub_any P ss l node (by omega) (fun s hs => by have := s3 s hs; omega) (by omega) A A2 c c2 W ((rs.below (hb1.trans (h.mono hb1.size))).more (Nat.le_trans hb1.size h.size)) ((rn.below (hb1.trans (h.mono hb1.size))).more (Nat.le_trans hb1.size h.size))).mono fun e w' hx => txt_out hx
  have hk1 := subL_len (P := P) (ss := ss) (l := l) (node := node)
  generalize subE P ss l node = E1 at hF1 hG1
  generalize subL P ss l node = L1 at hF1 hG1 hk1
  have hrs := rs; have hrn := rn
  obtain ⟨N, hN⟩ : ∃ N, N = ss.length := ⟨_, rfl⟩
  obtain ⟨n, hn⟩ : ∃ n, n = l.length := ⟨_, rfl⟩
  rw [← hN] at c1 hw1 HBG ⊢
  rw [← hn] at c3 hw1 HBG ⊢
  have HW1 := hid hw1; have HB1 := hid hb1; have HSM := hid hsm; have HR1 := hid hr1; have HNN := hid hN; have HNl := hid hn; have HRS := hid hrs; have HRN := hid hrn
  have HF1 := hid hF1; have HG1 := hid hG1
  have HK1 := hid hk1
  clear hF1 hG1 hk1
  have HW : Hid (∀ wr, Below w1.heap.size w1 wr → Below w.heap.size w wr) := fun wr h => hb1.trans (h.mono (by omega))
  have HWK := hid fun (W : World) => works_any W
  have HC0 := hid fun (wr : World) (h : Below w1.heap.size w1 wr) => (h.cell (p := ⟨w.heap.size, 0, none⟩) hz1).trans c0
  have HC1 := hid fun (wr : World) (h : Below w1.heap.size w1 wr) => (h.cell (p := ⟨w.heap.size, 1, none⟩) hz1).trans c1
  have HC3 := hid fun (wr : World) (h : Below w1.heap.size w1 wr) => (h.cell (p := ⟨w.heap.size, 2, none⟩) hz1).trans c3
  clear hw1 rs rn hsm hr1 hN hn hv hl hb1 hrs hrn
  go_enter Try.func8, Try.ntmps8
  go_upto_region 1 with (fail)
  rw [← HW1.out]
  clear HW1
  obtain ⟨B0, hB0⟩ : ∃ B0, B0 = w.heap.size := ⟨_, rfl⟩
  rw [← hB0] at c0 c1 c3 hz1 HC0 HC1 HC3 ⊢
  clear hB0
  cases r1 with
  | true =>
    go_wp2_with (first | (go_at_call 15; refine HBG.out.mono ?_; rintro e w2 ⟨rfl, hb2⟩; have HB2 := hid hb2; clear hb2 c0 c1 c3) | (go_at_call 16; refine (HWK.out _).mono ?_; rintro e w3 ⟨rfl, hb3⟩; have HB3 := hid (bnext HB2.out hb3); clear hb3))
    go_ret
    exact ⟨rfl, HW.out _ HB3.out⟩
  | false =>
    obtain ⟨s1, s2, s3⟩ := HSM.out (fun h => by have := HR1.out.2 h; cases this)
    have HLI := hid fun (W : World) (h : Below w1.heap.size w1 W) => list_at (P := P) (c := c) (V := .slice A2 n c2) s1 s3 (HW.out _ (Below.refl _ _)) HRS.out W h
    have HTX := hid fun (W : World) (h : Below w1.heap.size w1 W) => text_at (P := P) (A := A) (N := N) (c := c) (c2 := c2) s2 (HW.out _ (Below.refl _ _)) HRN.out W h
    rw [← HNN.out] at HLI
    rw [← HNl.out] at HTX
    replace HF1 := hid (HF1.out s1 s2 s3); replace HG1 := hid (HG1.out s1 s2 s3)
    rw [← HNl.out] at HF1 HG1
    rw [← HNN.out] at HG1
    have hk1 := HK1.out
    obtain ⟨n1, hn1⟩ : ∃ n1, n1 = L1.length := ⟨_, rfl⟩
    rw [← hn1] at HF1 HG1 hk1
    have HN1 := hid hn1
    have hs1 : n1 ≤ 1000000 := by omega
    clear hk1 hn1
    go_upto_region 3 with (first | (go_at_call 15; refine HBG.out.mono ?_; rintro e w2 ⟨rfl, hb2⟩; have HB2 := hid hb2; clear hb2 c0 c1 c3))
    go_cut [5, 6] (fun s3 s4 wx => ∃ (b : Nat) (A' : Option Addr) (c' : Nat), s3 = .pointer (some ⟨b, 0, none⟩) ∧ s4 = .int .i64 E1 ∧ Hid (Bx wx b (.slice A' n1 c')) ∧ Hid (Nds wx wx.heap.size A' L1) ∧ Hid (Below w2.heap.size w2 wx))
    case first =>
      have q0 := HC0.out w2 HB2.out; have q1 := HC1.out w2 HB2.out; have q3 := HC3.out w2 HB2.out
      have hsb : w1.heap.size ≤ w2.heap.size := HB2.out.size
      go_region_held3 (fun w' => w'.cell? ⟨B0, 0, none⟩ = some (.int .i64 P) ∧ w'.cell? ⟨B0, 1, none⟩ = some (.slice A N c) ∧ w'.cell? ⟨B0, 2, none⟩ = some (.slice A2 n c2)) (first | exact ⟨q0, q1, q3⟩ | exact ⟨HC0.out _ (bnext HB2.out (by first | exact HX32.out | exact bal HX32.out _ | exact HX31.out | exact bal HX31.out _ | exact HX30.out | exact bal HX30.out _ | exact (Below.refl _ _).drew | exact bal (Below.refl _ _).drew _ | exact (bal (Below.refl _ _) _).drew | exact Below.refl _ _ | exact bal (Below.refl _ _) _ | exact bst HX32.out HX31.out.size _ | exact bst HX32.out HX30.out.size _ | exact bst HX32.out HX32.out.size _ | exact bst HX32.out (Nat.le_refl _) _)), HC1.out _ (bnext HB2.out (by first | exact HX32.out | exact bal HX32.out _ | exact HX31.out | exact bal HX31.out _ | exact HX30.out | exact bal HX30.out _ | exact (Below.refl _ _).drew | exact bal (Below.refl _ _).drew _ | exact (bal (Below.refl _ _) _).drew | exact Below.refl _ _ | exact bal (Below.refl _ _) _ | exact bst HX32.out HX31.out.size _ | exact bst HX32.out HX30.out.size _ | exact bst HX32.out HX32.out.size _ | exact bst HX32.out (Nat.le_refl _) _)), HC3.out _ (bnext HB2.out (by first | exact HX32.out | exact bal HX32.out _ | exact HX31.out | exact bal HX31.out _ | exact HX30.out | exact bal HX30.out _ | exact (Below.refl _ _).drew | exact bal (Below.refl _ _).drew _ | exact (bal (Below.refl _ _) _).drew | exact Below.refl _ _ | exact bal (Below.refl _ _) _ | exact bst HX32.out HX31.out.size _ | exact bst HX32.out HX30.out.size _ | exact bst HX32.out HX32.out.size _ | exact bst HX32.out (Nat.le_refl _) _))⟩ | fail) (first | (go_at_call 17; refine (HLI.out _ (bnext HB2.out (by first | exact HX32.out | exact bal HX32.out _ | exact HX31.out | exact bal HX31.out _ | exact HX30.out | exact bal HX30.out _ | exact (Below.refl _ _).drew | exact bal (Below.refl _ _).drew _ | exact (bal (Below.refl _ _) _).drew | exact Below.refl _ _ | exact bal (Below.refl _ _) _ | exact bst HX32.out HX31.out.size _ | exact bst HX32.out HX30.out.size _ | exact bst HX32.out HX32.out.size _ | exact bst HX32.out (Nat.le_refl _) _))).mono ?_; rintro e w30 ⟨A30, c30, ss30, rfl, hl30, hb30⟩; have HL30 := hid hl30; have HX30 := hid (show Below w2.heap.size w2 w30 from bnext (by first | exact HX32.out | exact bal HX32.out _ | exact HX31.out | exact bal HX31.out _ | exact HX30.out | exact bal HX30.out _ | exact (Below.refl _ _).drew | exact bal (Below.refl _ _).drew _ | exact (bal (Below.refl _ _) _).drew | exact Below.refl _ _ | exact bal (Below.refl _ _) _ | exact bst HX32.out HX31.out.size _ | exact bst HX32.out HX30.out.size _ | exact bst HX32.out HX32.out.size _ | exact bst HX32.out (Nat.le_refl _) _) hb30); (first | (have bf := hid (Bxf.kept bf.out hb30); skip) | (have bf := hid (Bxf.kept (Bxf.new (w := w2) (b := w2.heap.size) rfl) hb30)) | (have bf := hid (Bxf.kept (Bxf.new (w := w2.drew) (b := w2.heap.size) rfl) hb30)) | skip); clear hl30 hb30) | (go_at_call 18; refine (HTX.out _ (bnext HB2.out (by first | exact HX32.out | exact bal HX32.out _ | exact HX31.out | exact bal HX31.out _ | exact HX30.out | exact bal HX30.out _ | exact (Below.refl _ _).drew | exact bal (Below.refl _ _).drew _ | exact (bal (Below.refl _ _) _).drew | exact Below.refl _ _ | exact bal (Below.refl _ _) _ | exact bst HX32.out HX31.out.size _ | exact bst HX32.out HX30.out.size _ | exact bst HX32.out HX32.out.size _ | exact bst HX32.out (Nat.le_refl _) _))).mono ?_; rintro e w31 ⟨A31, c31, rfl, ho31, hb31⟩; have HP31 := hid (Copies.mk' (c4 := c31) HL30.out (bnext (by first | exact Below.refl _ _ | exact bal (Below.refl _ _) _) hb31) (by rw [← HNl.out]; exact ho31)); have HX31 := hid (show Below w2.heap.size w2 w31 from bnext (by first | exact HX32.out | exact bal HX32.out _ | exact HX31.out | exact bal HX31.out _ | exact HX30.out | exact bal HX30.out _ | exact (Below.refl _ _).drew | exact bal (Below.refl _ _).drew _ | exact (bal (Below.refl _ _) _).drew | exact Below.refl _ _ | exact bal (Below.refl _ _) _ | exact bst HX32.out HX31.out.size _ | exact bst HX32.out HX30.out.size _ | exact bst HX32.out HX32.out.size _ | exact bst HX32.out (Nat.le_refl _) _) hb31); (first | (have bf := hid (Bxf.kept bf.out hb31); skip) | (have bf := hid (Bxf.kept (Bxf.new (w := w30) (b := w30.heap.size) rfl) hb31)) | (have bf := hid (Bxf.kept (Bxf.new (w := w30.drew) (b := w30.heap.size) rfl) hb31)) | skip); clear ho31 hb31) | (go_at_call 43; refine (HF1.out _ _ _ _ _ _ (HP31.out.below (by first | exact Below.refl _ _ | exact bal (Below.refl _ _) _)) (bnext HB2.out (by first | exact HX32.out | exact bal HX32.out _ | exact HX31.out | exact bal HX31.out _ | exact HX30.out | exact bal HX30.out _ | exact (Below.refl _ _).drew | exact bal (Below.refl _ _).drew _ | exact (bal (Below.refl _ _) _).drew | exact Below.refl _ _ | exact bal (Below.refl _ _) _ | exact bst HX32.out HX31.out.size _ | exact bst HX32.out HX30.out.size _ | exact bst HX32.out HX32.out.size _ | exact bst HX32.out (Nat.le_refl _) _))).mono ?_; rintro e w32 ⟨A32, c32, rfl, hr32, hb32⟩; have HR32 := hid (show Nds w32 w32.heap.size A32 L1 from Reads.of_own (by rw [← HN1.out]; exact hr32)); (first | (have bo := hid (Bxf.own bf.out hb32 hr32 HN1.out); skip) | (have bo := hid (Bxf.own (Bxf.new (w := w31) (b := w31.heap.size) rfl) hb32 hr32 HN1.out)) | skip); have HX32 := hid (show Below w2.heap.size w2 w32 from bnext (by first | exact HX32.out | exact bal HX32.out _ | exact HX31.out | exact bal HX31.out _ | exact HX30.out | exact bal HX30.out _ | exact (Below.refl _ _).drew | exact bal (Below.refl _ _).drew _ | exact (bal (Below.refl _ _) _).drew | exact Below.refl _ _ | exact bal (Below.refl _ _) _ | exact bst HX32.out HX31.out.size _ | exact bst HX32.out HX30.out.size _ | exact bst HX32.out HX32.out.size _ | exact bst HX32.out (Nat.le_refl _) _) hb32); (first | (have bf := hid (Bxf.kept bf.out hb32); skip) | (have bf := hid (Bxf.kept (Bxf.new (w := w31) (b := w31.heap.size) rfl) hb32)) | (have bf := hid (Bxf.kept (Bxf.new (w := w31.drew) (b := w31.heap.size) rfl) hb32)) | skip); (first | (have bfc := bf.out.cell; have bff := bf.out.free) | skip); clear hr32 hb32))
      all_goals
        go_wp2_with fail
        go_meet
        first
          | exact ⟨_, _, _, rfl, rfl, hid bo.out.1, hid bo.out.2, hid (by first | exact HX32.out | exact bal HX32.out _ | exact HX31.out | exact bal HX31.out _ | exact HX30.out | exact bal HX30.out _ | exact (Below.refl _ _).drew | exact bal (Below.refl _ _).drew _ | exact (bal (Below.refl _ _) _).drew | exact Below.refl _ _ | exact bal (Below.refl _ _) _ | exact bst HX32.out HX31.out.size _ | exact bst HX32.out HX30.out.size _ | exact bst HX32.out HX32.out.size _ | exact bst HX32.out (Nat.le_refl _) _)⟩
          | exact ⟨_, _, _, rfl, rfl, hid (Bx.new rfl), hid (rdn HR32.out (bal (Below.refl _ _) _)), hid (bal HX32.out _)⟩
    obtain ⟨b3, A3, c3, rfl, rfl, BX3, HR3, HX3⟩ := hcut
    obtain ⟨w3, rfl⟩ : ∃ W, W = wc := ⟨_, rfl⟩
    have HB3 := hid (bnext HB2.out HX3.out)
    clear HX3
    have q0 := HC0.out w3 HB3.out; have q1 := HC1.out w3 HB3.out; have q3 := HC3.out w3 HB3.out
    go_upto_region 5 with (first | (go_at_call 44; refine (HG1.out _ HB3.out).mono ?_; rintro e w4 ⟨A4, c4, rfl, hr4, hb4⟩; have HR4 := hid hr4; have HB4 := hid (bnext HB3.out hb4); replace HR3 := hid (rdn HR3.out hb4); replace BX3 := hid (bxn BX3.out hb4); clear hr4 hb4 q0 q1 q3))
    obtain ⟨w43, hw43⟩ : ∃ W, W = w4.alloc (.cells #[.slice A4 n1 c4] 27) := ⟨_, rfl⟩
    obtain ⟨b43, hb43⟩ : ∃ b, b = w4.heap.size := ⟨_, rfl⟩
    have hA : Below w4.heap.size w4 w43 := by rw [hw43]; exact (Below.refl _ _).alloc (Nat.le_refl _) _
    have BX43 := hid (show Bx w43 b43 (.slice A4 n1 c4) from by rw [hw43]; exact Bx.new hb43)
    rw [← hw43, ← hb43]
    have HB43 := hid (bnext HB4.out hA); replace HR3 := hid (rdn HR3.out hA); replace BX3 := hid (bxn BX3.out hA); replace HR4 := hid (rdn HR4.out hA); clear hA hw43 hb43
    have hwk := HWK.out
    have HS1 := hid (txt_same n1 HN1.out hs1 c3 c4 HR3.out HR4.out)
    have x1 := BX3.out.cell; have x2 := BX43.out.cell
    go_wp2_with (first | (go_at_call 22; refine HS1.out.mono ?_; rintro e w9 ⟨rfl, hb9⟩; have HB9 := hid (bnext HB43.out hb9); clear hb9 HS1 x1 x2) | (go_at_call 16; refine (HWK.out _).mono ?_; rintro e w13 ⟨rfl, hb13⟩; have HB13 := hid (bnext HB9.out hb13); clear hb13))
    go_ret
    exact ⟨rfl, HW.out _ HB13.out⟩
end Go.Proofs.Ytddbnggficlcfaa
