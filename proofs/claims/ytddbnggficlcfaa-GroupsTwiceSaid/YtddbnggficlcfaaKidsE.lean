/- groups.Kids, groups.Groups, ostraconref02.KidsOf, ostraconref02.Groups. -/
import Derived.Test.YtddbnggficlcfaaChk1
import Derived.Test.YtddbnggficlcfaaChk2
namespace Go.Proofs.Ytddbnggficlcfaa
open Go.RowKit Go.Shelf
/-- A function that answers numbers and an error. -/
def IntsPost (E : Int) (L : List Int) (w : World) (e : Ending) (w' : World) : Prop := ∃ v, e = .returned (.tuple #[v, .int .i64 E]) ∧ w'.ownsRow w.heap.size 3 1 v L.length (ints L) ∧ Below w.heap.size w w'
noncomputable def kidE (P : Int) (ss : List Sg) (l : List Nd) (node : Int) : Int := if chkE P ss l ≠ 0 then chkE P ss l else if node < 0 ∨ (l.length : Int) ≤ node then 1 else 0
noncomputable def kidL (P : Int) (ss : List Sg) (l : List Nd) (node : Int) : List Int := if kidE P ss l node = 0 then nz (kidsOf l node) else []
theorem kidE_bad {P : Int} {ss : List Sg} {l : List Nd} {node : Int} (h : chkE P ss l ≠ 0) : kidE P ss l node = chkE P ss l ∧ kidL P ss l node = [] := by
  have h1 : kidE P ss l node = chkE P ss l := if_pos h
  exact ⟨h1, by unfold kidL; rw [h1, if_neg h]⟩
theorem kidE_arg {P : Int} {ss : List Sg} {l : List Nd} {node : Int} (h : chkE P ss l = 0) (h2 : node < 0 ∨ (l.length : Int) ≤ node) : kidE P ss l node = 1 ∧ kidL P ss l node = [] := by
  have h1 : kidE P ss l node = 1 := by unfold kidE; rw [if_neg (by simp [h]), if_pos h2]
  exact ⟨h1, by unfold kidL; rw [h1, if_neg (by decide)]⟩
theorem kidE_ok {P : Int} {ss : List Sg} {l : List Nd} {node : Int} (h : chkE P ss l = 0) (h2 : ¬ (node < 0 ∨ (l.length : Int) ≤ node)) : kidE P ss l node = 0 ∧ kidL P ss l node = nz (kidsOf l node) := by
  have h1 : kidE P ss l node = 0 := by unfold kidE; rw [if_neg (by simp [h]), if_neg h2]
  exact ⟨h1, by unfold kidL; rw [h1, if_pos rfl]⟩
noncomputable def grpL (P : Int) (ss : List Sg) (l : List Nd) : List Int := if chkE P ss l = 0 then nz (kidsOf l (-1)) else []
theorem grpL_bad {P : Int} {ss : List Sg} {l : List Nd} (h : chkE P ss l ≠ 0) : grpL P ss l = [] := if_neg h
theorem grpL_ok {P : Int} {ss : List Sg} {l : List Nd} (h : chkE P ss l = 0) : grpL P ss l = nz (kidsOf l (-1)) := if_pos h
set_option maxRecDepth 100000 in
set_option maxHeartbeats 4000000 in
theorem kidsE_any (P : Int) (ss : List Sg) (l : List Nd) (node : Int) (hN : ss.length ≤ 1000000) (hv : ∀ s ∈ ss, s.vals.length ≤ 1000000 ∧ s.vals.length ≤ s.vc) (hn : l.length ≤ 1000000) (A A2 : Option Addr) (c c2 : Nat) (w : World) (rs : Sgs w w.heap.size A ss) (rn : Nds w w.heap.size A2 l) (hnl : -9223372036854775808 ≤ node) :
    Calls Try.prog 23 #[.agg #[.int .i64 P, .slice A ss.length c], .agg #[.slice A2 l.length c2], .int .i64 node] w (IntsPost (kidE P ss l node) (kidL P ss l node) w) := by
  obtain ⟨w1, hw1⟩ : ∃ w1, w1 = (w.alloc (.cells #[.int .i64 P, .slice A ss.length c] 24)).alloc (.cells #[.slice A2 l.length c2] 27) := ⟨_, rfl⟩
  have hb1 : Below w.heap.size w w1 := by rw [hw1]; exact ((Below.refl _ _).alloc (Nat.le_refl _) _).alloc (by simp) _
  have hz1 : w1.heap.size = w.heap.size + 2 := by rw [hw1]; simp
  have c0 : w1.cell? ⟨w.heap.size, 0, none⟩ = some (.int .i64 P) := by rw [hw1]; exact cell_old (cell_here rfl rfl)
  have c1 : w1.cell? ⟨w.heap.size, 1, none⟩ = some (.slice A ss.length c) := by rw [hw1]; exact cell_old (cell_here rfl rfl)
  have c3 : w1.cell? ⟨w.heap.size + 1, 0, none⟩ = some (.slice A2 l.length c2) := by rw [hw1]; exact cell_here (by simp) rfl
  have HCK := hid (check_any P ss l hN hv hn A A2 c c2 w1 ((rs.below hb1).more (by omega)) ((rn.below hb1).more (by omega)))
  have HCO := hid fun (h : 0 ≤ node ∧ node < l.length) (W : World) (hb : Below w.heap.size w W) => collect_any l (node) (by omega) (by omega) hn A2 c2 W.heap.size W.heap.size (W.heap.size + 1) _ (kids_kk (node := node) ((rn.below hb).more hb.size) (Nat.le_refl _)) (by simp; omega)
  have m1 := kidE_bad (P := P) (ss := ss) (l := l) (node := node); have m2 := kidE_arg (P := P) (ss := ss) (l := l) (node := node); have m3 := kidE_ok (P := P) (ss := ss) (l := l) (node := node)
  generalize kidE P ss l node = E at m1 m2 m3 ⊢
  generalize kidL P ss l node = L at m1 m2 m3 ⊢
  generalize hCC : chkE P ss l = CE at HCK m1 m2 m3
  have M1 := hid m1; have M2 := hid m2; have M3 := hid m3; have HCC := hid hCC
  clear m1 m2 m3 hCC
  obtain ⟨N, hNN⟩ : ∃ N, N = ss.length := ⟨_, rfl⟩
  obtain ⟨n, hnn⟩ : ∃ n, n = l.length := ⟨_, rfl⟩
  rw [← hNN] at HCK c1 hw1 ⊢
  rw [← hnn] at HCK c3 hw1 hn ⊢
  have HW1 := hid hw1; have HB1 := hid hb1; have HNN := hid hnn
  have hzz : w.heap.size + 1 < w1.heap.size := by omega
  have HC3 := hid fun (wr : World) (h : Below w1.heap.size w1 wr) => (h.cell (p := ⟨w.heap.size + 1, 0, none⟩) hzz).trans c3
  have HW : Hid (∀ wr, Below w1.heap.size w1 wr → Below w.heap.size w wr) := fun wr h => hb1.trans (h.mono (by omega))
  clear hw1 hb1 hz1 rs rn hv hN hNN hnn
  go_enter Try.func23, Try.ntmps23
  go_upto_region 1 with (fail)
  rw [← HW1.out]
  clear HW1
  obtain ⟨B0, hB0⟩ : ∃ B0, B0 = w.heap.size := ⟨_, rfl⟩
  obtain ⟨B1, hB1⟩ : ∃ B1, B1 = B0 + 1 := ⟨_, rfl⟩
  rw [← hB0, ← hB1] at c3 HC3 hzz
  rw [← hB0] at c0 c1 ⊢
  rw [← hB1]
  clear hB0 hB1
  by_cases hCE : CE = 0
  · have f0 : (CE != 0) = false := by simp [hCE]
    replace M2 := hid (M2.out hCE); replace M3 := hid (M3.out hCE)
    rw [← HNN.out] at M2 M3
    clear M1
    replace HCC := hid (HCC.out.trans hCE)
    subst hCE
    by_cases hg : node < 0 ∨ (n : Int) ≤ node
    · obtain ⟨x1, x2⟩ := M2.out hg
      have X1 := hid x1; have X2 := hid x2
      clear M2 M3 x1 x2
      go_wp2_with (first | (go_at_call 19; refine HCK.out.mono ?_; rintro e w2 ⟨rfl, hb2⟩; have p2 := HC3.out w2 hb2; have HB2 := hid hb2; clear hb2 HCK c0 c1 c3))
      all_goals first | (exfalso; omega) | (go_ret2; exact ⟨.slice none 0 0, by rw [X1.out]; rfl, by rw [X2.out]; exact World.ownsRow_nil _ _ _ _, HW.out _ HB2.out⟩)
    · obtain ⟨x1, x2⟩ := M3.out hg
      have X1 := hid x1; have X2 := hid x2
      have f1 : decide (node < 0) = false := decide_eq_false (by omega)
      have f2 : decide ((n : Int) ≤ node) = false := decide_eq_false (by omega)
      replace HCO := hid (HCO.out (by rw [← HNN.out]; omega))
      rw [← HNN.out] at HCO
      clear M2 M3 x1 x2 hg
      go_wp2_with (first | (go_at_call 19; refine HCK.out.mono ?_; rintro e w2 ⟨rfl, hb2⟩; have p2 := HC3.out w2 hb2; have HC2 := hid (HCO.out w2 (HW.out _ hb2)); have HB2 := hid hb2; clear hb2 HCK c0 c1 c3) | (go_at_call 66; refine (kids_any A2 n c2 (node) _).mono ?_; rintro e w4 ⟨rfl, rfl⟩) | (go_at_call 65; refine HC2.out.mono ?_; rintro e w5 ⟨v5, rfl, ho5, hb5⟩; have HO5 := hid (own_base ho5 (show w.heap.size ≤ _ by simp; have := (HW.out _ HB2.out).size; omega)); have HB5 := hid ((((HW.out _ HB2.out).alloc (HW.out _ HB2.out).size _).alloc (by simp; have := (HW.out _ HB2.out).size; omega) _).trans (hb5.mono (by simp; have := (HW.out _ HB2.out).size; omega))); obtain ⟨A5, c5, rfl⟩ := own_slice HO5.out; clear ho5 hb5))
      go_ret2
      exact ⟨_, by rw [X1.out]; rfl, by rw [X2.out, nz_len]; exact HO5.out, HB5.out⟩
  · have f0 : (CE != 0) = true := by simp [hCE]
    obtain ⟨x1, x2⟩ := M1.out hCE
    have X1 := hid x1; have X2 := hid x2
    clear x1 x2
    clear M1 M2 M3 hCE
    go_wp2_with (first | (go_at_call 19; refine HCK.out.mono ?_; rintro e w2 ⟨rfl, hb2⟩; have HB2 := hid hb2; clear hb2 HCK c0 c1 c3))
    go_ret2
    exact ⟨.slice none 0 0, by rw [X1.out]; rfl, by rw [X2.out]; exact World.ownsRow_nil _ _ _ _, HW.out _ HB2.out⟩
set_option maxRecDepth 100000 in
set_option maxHeartbeats 4000000 in
theorem refKidsOf_any (P : Int) (ss : List Sg) (l : List Nd) (node : Int) (hN : ss.length ≤ 1000000) (hv : ∀ s ∈ ss, s.vals.length ≤ 1000000) (hn : l.length ≤ 1000000) (A A2 : Option Addr) (c c2 : Nat) (w : World) (rs : Sgs w w.heap.size A ss) (rn : Nds w w.heap.size A2 l) (hnl : -9223372036854775808 ≤ node) :
    Calls Try.prog 24 #[.agg #[.int .i64 P, .slice A ss.length c], .agg #[.slice A2 l.length c2], .int .i64 node] w (IntsPost (kidE P ss l node) (kidL P ss l node) w) := by
  obtain ⟨w1, hw1⟩ : ∃ w1, w1 = (w.alloc (.cells #[.int .i64 P, .slice A ss.length c] 24)).alloc (.cells #[.slice A2 l.length c2] 27) := ⟨_, rfl⟩
  have hb1 : Below w.heap.size w w1 := by rw [hw1]; exact ((Below.refl _ _).alloc (Nat.le_refl _) _).alloc (by simp) _
  have hz1 : w1.heap.size = w.heap.size + 2 := by rw [hw1]; simp
  have c0 : w1.cell? ⟨w.heap.size, 0, none⟩ = some (.int .i64 P) := by rw [hw1]; exact cell_old (cell_here rfl rfl)
  have c1 : w1.cell? ⟨w.heap.size, 1, none⟩ = some (.slice A ss.length c) := by rw [hw1]; exact cell_old (cell_here rfl rfl)
  have c3 : w1.cell? ⟨w.heap.size + 1, 0, none⟩ = some (.slice A2 l.length c2) := by rw [hw1]; exact cell_here (by simp) rfl
  have HCK := hid (refCheck_any P ss l hN hv hn A A2 c c2 w1 ((rs.below hb1).more (by omega)) ((rn.below hb1).more (by omega)))
  have HKR := hid fun (h0 : chkE P ss l = 0) (h : 0 ≤ node ∧ node < l.length) (W : World) (hb : Below w.heap.size w W) => refKids_any l (node) (by omega) (by omega) (good_of (chkE_zero h0).2.2.1).deps hn A2 c2 W ((rn.below hb).more hb.size)
  have HEQ := hid fun (h0 : chkE P ss l = 0) (h : 0 ≤ node ∧ node < l.length) => rkids_eq (good_of (chkE_zero h0).2.2.1).wf (node := node) (by omega) (by omega)
  have m1 := kidE_bad (P := P) (ss := ss) (l := l) (node := node); have m2 := kidE_arg (P := P) (ss := ss) (l := l) (node := node); have m3 := kidE_ok (P := P) (ss := ss) (l := l) (node := node)
  generalize kidE P ss l node = E at m1 m2 m3 ⊢
  generalize kidL P ss l node = L at m1 m2 m3 ⊢
  generalize hCC : chkE P ss l = CE at HCK m1 m2 m3
  have M1 := hid m1; have M2 := hid m2; have M3 := hid m3; have HCC := hid hCC
  clear m1 m2 m3 hCC
  obtain ⟨N, hNN⟩ : ∃ N, N = ss.length := ⟨_, rfl⟩
  obtain ⟨n, hnn⟩ : ∃ n, n = l.length := ⟨_, rfl⟩
  rw [← hNN] at HCK c1 hw1 ⊢
  rw [← hnn] at HCK c3 hw1 hn ⊢
  have HW1 := hid hw1; have HB1 := hid hb1; have HNN := hid hnn
  have hzz : w.heap.size + 1 < w1.heap.size := by omega
  have HC3 := hid fun (wr : World) (h : Below w1.heap.size w1 wr) => (h.cell (p := ⟨w.heap.size + 1, 0, none⟩) hzz).trans c3
  have HW : Hid (∀ wr, Below w1.heap.size w1 wr → Below w.heap.size w wr) := fun wr h => hb1.trans (h.mono (by omega))
  clear hw1 hb1 hz1 rs rn hv hN hNN hnn
  go_enter Try.func24, Try.ntmps24
  go_upto_region 1 with (fail)
  rw [← HW1.out]
  clear HW1
  obtain ⟨B0, hB0⟩ : ∃ B0, B0 = w.heap.size := ⟨_, rfl⟩
  obtain ⟨B1, hB1⟩ : ∃ B1, B1 = B0 + 1 := ⟨_, rfl⟩
  rw [← hB0, ← hB1] at c3 HC3 hzz
  rw [← hB0] at c0 c1 ⊢
  rw [← hB1]
  clear hB0 hB1
  by_cases hCE : CE = 0
  · have f0 : (CE != 0) = false := by simp [hCE]
    replace M2 := hid (M2.out hCE); replace M3 := hid (M3.out hCE)
    rw [← HNN.out] at M2 M3
    clear M1
    replace HCC := hid (HCC.out.trans hCE)
    subst hCE
    by_cases hg : node < 0 ∨ (n : Int) ≤ node
    · obtain ⟨x1, x2⟩ := M2.out hg
      have X1 := hid x1; have X2 := hid x2
      clear M2 M3 x1 x2
      go_wp2_with (first | (go_at_call 20; refine HCK.out.mono ?_; rintro e w2 ⟨rfl, hb2⟩; have p2 := HC3.out w2 hb2; have HB2 := hid hb2; clear hb2 HCK c0 c1 c3))
      all_goals first | (exfalso; omega) | (go_ret2; exact ⟨.slice none 0 0, by rw [X1.out]; rfl, by rw [X2.out]; exact World.ownsRow_nil _ _ _ _, HW.out _ HB2.out⟩)
    · obtain ⟨x1, x2⟩ := M3.out hg
      have X1 := hid x1; have X2 := hid x2
      have f1 : decide (node < 0) = false := decide_eq_false (by omega)
      have f2 : decide ((n : Int) ≤ node) = false := decide_eq_false (by omega)
      have hkr := HKR.out HCC.out (by rw [← HNN.out]; omega)
      rw [HEQ.out HCC.out (by rw [← HNN.out]; omega), ← HNN.out] at hkr
      replace HKR := hid hkr
      clear M2 M3 x1 x2 hg hkr HEQ
      go_wp2_with (first | (go_at_call 20; refine HCK.out.mono ?_; rintro e w2 ⟨rfl, hb2⟩; have p2 := HC3.out w2 hb2; have HC2 := hid (HKR.out w2 (HW.out _ hb2)); have HB2 := hid hb2; clear hb2 HCK c0 c1 c3) | (go_at_call 67; refine HC2.out.mono ?_; rintro e w5 ⟨v5, rfl, ho5, hb5⟩; have HO5 := hid (own_base ho5 (HW.out _ HB2.out).size); have HB5 := hid ((HW.out _ HB2.out).trans (hb5.mono (HW.out _ HB2.out).size)); obtain ⟨A5, c5, rfl⟩ := own_slice HO5.out; clear ho5 hb5))
      go_ret2
      exact ⟨_, by rw [X1.out]; rfl, by rw [X2.out, nz_len]; exact HO5.out, HB5.out⟩
  · have f0 : (CE != 0) = true := by simp [hCE]
    obtain ⟨x1, x2⟩ := M1.out hCE
    have X1 := hid x1; have X2 := hid x2
    clear x1 x2
    clear M1 M2 M3 hCE
    go_wp2_with (first | (go_at_call 20; refine HCK.out.mono ?_; rintro e w2 ⟨rfl, hb2⟩; have HB2 := hid hb2; clear hb2 HCK c0 c1 c3))
    go_ret2
    exact ⟨.slice none 0 0, by rw [X1.out]; rfl, by rw [X2.out]; exact World.ownsRow_nil _ _ _ _, HW.out _ HB2.out⟩
set_option maxRecDepth 100000 in
set_option maxHeartbeats 4000000 in
theorem groupsE_any (P : Int) (ss : List Sg) (l : List Nd) (hN : ss.length ≤ 1000000) (hv : ∀ s ∈ ss, s.vals.length ≤ 1000000 ∧ s.vals.length ≤ s.vc) (hn : l.length ≤ 1000000) (A A2 : Option Addr) (c c2 : Nat) (w : World) (rs : Sgs w w.heap.size A ss) (rn : Nds w w.heap.size A2 l) :
    Calls Try.prog 25 #[.agg #[.int .i64 P, .slice A ss.length c], .agg #[.slice A2 l.length c2]] w (IntsPost (chkE P ss l) (grpL P ss l) w) := by
  obtain ⟨w1, hw1⟩ : ∃ w1, w1 = (w.alloc (.cells #[.int .i64 P, .slice A ss.length c] 24)).alloc (.cells #[.slice A2 l.length c2] 27) := ⟨_, rfl⟩
  have hb1 : Below w.heap.size w w1 := by rw [hw1]; exact ((Below.refl _ _).alloc (Nat.le_refl _) _).alloc (by simp) _
  have hz1 : w1.heap.size = w.heap.size + 2 := by rw [hw1]; simp
  have c0 : w1.cell? ⟨w.heap.size, 0, none⟩ = some (.int .i64 P) := by rw [hw1]; exact cell_old (cell_here rfl rfl)
  have c1 : w1.cell? ⟨w.heap.size, 1, none⟩ = some (.slice A ss.length c) := by rw [hw1]; exact cell_old (cell_here rfl rfl)
  have c3 : w1.cell? ⟨w.heap.size + 1, 0, none⟩ = some (.slice A2 l.length c2) := by rw [hw1]; exact cell_here (by simp) rfl
  have HCK := hid (check_any P ss l hN hv hn A A2 c c2 w1 ((rs.below hb1).more (by omega)) ((rn.below hb1).more (by omega)))
  have HCO := hid fun (h : True) (W : World) (hb : Below w.heap.size w W) => collect_any l (-1) (by omega) (by omega) hn A2 c2 W.heap.size W.heap.size (W.heap.size + 1) _ (kids_kk (node := -1) ((rn.below hb).more hb.size) (Nat.le_refl _)) (by simp; omega)
  have m1 := grpL_bad (P := P) (ss := ss) (l := l); have m3 := grpL_ok (P := P) (ss := ss) (l := l)
  generalize grpL P ss l = L at m1 m3 ⊢
  generalize hCC : chkE P ss l = CE at HCK m1 m3 ⊢
  have M1 := hid m1; have M3 := hid m3; have HCC := hid hCC
  clear m1 m3 hCC
  obtain ⟨N, hNN⟩ : ∃ N, N = ss.length := ⟨_, rfl⟩
  obtain ⟨n, hnn⟩ : ∃ n, n = l.length := ⟨_, rfl⟩
  rw [← hNN] at HCK c1 hw1 ⊢
  rw [← hnn] at HCK c3 hw1 hn ⊢
  have HW1 := hid hw1; have HB1 := hid hb1; have HNN := hid hnn
  have hzz : w.heap.size + 1 < w1.heap.size := by omega
  have HC3 := hid fun (wr : World) (h : Below w1.heap.size w1 wr) => (h.cell (p := ⟨w.heap.size + 1, 0, none⟩) hzz).trans c3
  have HW : Hid (∀ wr, Below w1.heap.size w1 wr → Below w.heap.size w wr) := fun wr h => hb1.trans (h.mono (by omega))
  clear hw1 hb1 hz1 rs rn hv hN hNN hnn
  go_enter Try.func25, Try.ntmps25
  go_upto_region 1 with (fail)
  rw [← HW1.out]
  clear HW1
  obtain ⟨B0, hB0⟩ : ∃ B0, B0 = w.heap.size := ⟨_, rfl⟩
  obtain ⟨B1, hB1⟩ : ∃ B1, B1 = B0 + 1 := ⟨_, rfl⟩
  rw [← hB0, ← hB1] at c3 HC3 hzz
  rw [← hB0] at c0 c1 ⊢
  rw [← hB1]
  clear hB0 hB1
  by_cases hCE : CE = 0
  · have f0 : (CE != 0) = false := by simp [hCE]
    replace M3 := hid (M3.out hCE)
    clear M1
    replace HCC := hid (HCC.out.trans hCE)
    subst hCE
    have X2 := hid M3.out
    replace HCO := hid (HCO.out trivial)
    rw [← HNN.out] at HCO
    clear M3
    go_wp2_with (first | (go_at_call 19; refine HCK.out.mono ?_; rintro e w2 ⟨rfl, hb2⟩; have p2 := HC3.out w2 hb2; have HC2 := hid (HCO.out w2 (HW.out _ hb2)); have HB2 := hid hb2; clear hb2 HCK c0 c1 c3) | (go_at_call 66; refine (kids_any A2 n c2 (-1) _).mono ?_; rintro e w4 ⟨rfl, rfl⟩) | (go_at_call 65; refine HC2.out.mono ?_; rintro e w5 ⟨v5, rfl, ho5, hb5⟩; have HO5 := hid (own_base ho5 (show w.heap.size ≤ _ by simp; have := (HW.out _ HB2.out).size; omega)); have HB5 := hid ((((HW.out _ HB2.out).alloc (HW.out _ HB2.out).size _).alloc (by simp; have := (HW.out _ HB2.out).size; omega) _).trans (hb5.mono (by simp; have := (HW.out _ HB2.out).size; omega))); obtain ⟨A5, c5, rfl⟩ := own_slice HO5.out; clear ho5 hb5))
    go_ret2
    exact ⟨_, rfl, by rw [X2.out, nz_len]; exact HO5.out, HB5.out⟩
  · have f0 : (CE != 0) = true := by simp [hCE]
    have X2 := hid (M1.out hCE)
    clear M1 M3 hCE
    go_wp2_with (first | (go_at_call 19; refine HCK.out.mono ?_; rintro e w2 ⟨rfl, hb2⟩; have HB2 := hid hb2; clear hb2 HCK c0 c1 c3))
    go_ret2
    exact ⟨.slice none 0 0, rfl, by rw [X2.out]; exact World.ownsRow_nil _ _ _ _, HW.out _ HB2.out⟩
set_option maxRecDepth 100000 in
set_option maxHeartbeats 4000000 in
theorem refGroups_any (P : Int) (ss : List Sg) (l : List Nd) (hN : ss.length ≤ 1000000) (hv : ∀ s ∈ ss, s.vals.length ≤ 1000000) (hn : l.length ≤ 1000000) (A A2 : Option Addr) (c c2 : Nat) (w : World) (rs : Sgs w w.heap.size A ss) (rn : Nds w w.heap.size A2 l) :
    Calls Try.prog 26 #[.agg #[.int .i64 P, .slice A ss.length c], .agg #[.slice A2 l.length c2]] w (IntsPost (chkE P ss l) (grpL P ss l) w) := by
  obtain ⟨w1, hw1⟩ : ∃ w1, w1 = (w.alloc (.cells #[.int .i64 P, .slice A ss.length c] 24)).alloc (.cells #[.slice A2 l.length c2] 27) := ⟨_, rfl⟩
  have hb1 : Below w.heap.size w w1 := by rw [hw1]; exact ((Below.refl _ _).alloc (Nat.le_refl _) _).alloc (by simp) _
  have hz1 : w1.heap.size = w.heap.size + 2 := by rw [hw1]; simp
  have c0 : w1.cell? ⟨w.heap.size, 0, none⟩ = some (.int .i64 P) := by rw [hw1]; exact cell_old (cell_here rfl rfl)
  have c1 : w1.cell? ⟨w.heap.size, 1, none⟩ = some (.slice A ss.length c) := by rw [hw1]; exact cell_old (cell_here rfl rfl)
  have c3 : w1.cell? ⟨w.heap.size + 1, 0, none⟩ = some (.slice A2 l.length c2) := by rw [hw1]; exact cell_here (by simp) rfl
  have HCK := hid (refCheck_any P ss l hN hv hn A A2 c c2 w1 ((rs.below hb1).more (by omega)) ((rn.below hb1).more (by omega)))
  have HKR := hid fun (h0 : chkE P ss l = 0) (h : True) (W : World) (hb : Below w.heap.size w W) => refKids_any l (-1) (by omega) (by omega) (good_of (chkE_zero h0).2.2.1).deps hn A2 c2 W ((rn.below hb).more hb.size)
  have HEQ := hid fun (h0 : chkE P ss l = 0) (h : True) => rkids_eq (good_of (chkE_zero h0).2.2.1).wf (node := -1) (by omega) (by omega)
  have m1 := grpL_bad (P := P) (ss := ss) (l := l); have m3 := grpL_ok (P := P) (ss := ss) (l := l)
  generalize grpL P ss l = L at m1 m3 ⊢
  generalize hCC : chkE P ss l = CE at HCK m1 m3 ⊢
  have M1 := hid m1; have M3 := hid m3; have HCC := hid hCC
  clear m1 m3 hCC
  obtain ⟨N, hNN⟩ : ∃ N, N = ss.length := ⟨_, rfl⟩
  obtain ⟨n, hnn⟩ : ∃ n, n = l.length := ⟨_, rfl⟩
  rw [← hNN] at HCK c1 hw1 ⊢
  rw [← hnn] at HCK c3 hw1 hn ⊢
  have HW1 := hid hw1; have HB1 := hid hb1; have HNN := hid hnn
  have hzz : w.heap.size + 1 < w1.heap.size := by omega
  have HC3 := hid fun (wr : World) (h : Below w1.heap.size w1 wr) => (h.cell (p := ⟨w.heap.size + 1, 0, none⟩) hzz).trans c3
  have HW : Hid (∀ wr, Below w1.heap.size w1 wr → Below w.heap.size w wr) := fun wr h => hb1.trans (h.mono (by omega))
  clear hw1 hb1 hz1 rs rn hv hN hNN hnn
  go_enter Try.func26, Try.ntmps26
  go_upto_region 1 with (fail)
  rw [← HW1.out]
  clear HW1
  obtain ⟨B0, hB0⟩ : ∃ B0, B0 = w.heap.size := ⟨_, rfl⟩
  obtain ⟨B1, hB1⟩ : ∃ B1, B1 = B0 + 1 := ⟨_, rfl⟩
  rw [← hB0, ← hB1] at c3 HC3 hzz
  rw [← hB0] at c0 c1 ⊢
  rw [← hB1]
  clear hB0 hB1
  by_cases hCE : CE = 0
  · have f0 : (CE != 0) = false := by simp [hCE]
    replace M3 := hid (M3.out hCE)
    clear M1
    replace HCC := hid (HCC.out.trans hCE)
    subst hCE
    have X2 := hid M3.out
    have hkr := HKR.out HCC.out trivial
    rw [HEQ.out HCC.out trivial, ← HNN.out] at hkr
    replace HKR := hid hkr
    clear M3 hkr HEQ
    go_wp2_with (first | (go_at_call 20; refine HCK.out.mono ?_; rintro e w2 ⟨rfl, hb2⟩; have p2 := HC3.out w2 hb2; have HC2 := hid (HKR.out w2 (HW.out _ hb2)); have HB2 := hid hb2; clear hb2 HCK c0 c1 c3) | (go_at_call 67; refine HC2.out.mono ?_; rintro e w5 ⟨v5, rfl, ho5, hb5⟩; have HO5 := hid (own_base ho5 (HW.out _ HB2.out).size); have HB5 := hid ((HW.out _ HB2.out).trans (hb5.mono (HW.out _ HB2.out).size)); obtain ⟨A5, c5, rfl⟩ := own_slice HO5.out; clear ho5 hb5))
    go_ret2
    exact ⟨_, rfl, by rw [X2.out, nz_len]; exact HO5.out, HB5.out⟩
  · have f0 : (CE != 0) = true := by simp [hCE]
    have X2 := hid (M1.out hCE)
    clear M1 M3 hCE
    go_wp2_with (first | (go_at_call 20; refine HCK.out.mono ?_; rintro e w2 ⟨rfl, hb2⟩; have HB2 := hid hb2; clear hb2 HCK c0 c1 c3))
    go_ret2
    exact ⟨.slice none 0 0, rfl, by rw [X2.out]; exact World.ownsRow_nil _ _ _ _, HW.out _ HB2.out⟩
end Go.Proofs.Ytddbnggficlcfaa
