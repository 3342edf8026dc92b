/- ostraconref02.Mark, groups.Line, ostraconref02.Line. -/
import Derived.Test.YtddbnggficlcfaaKidsE
import Derived.Test.YtddbnggficlcfaaOrdE
import Derived.Test.YtddbnggficlcfaaLeaves
namespace Go.Proofs.Ytddbnggficlcfaa
open Go.RowKit Go.Shelf
set_option maxRecDepth 100000 in
set_option maxHeartbeats 1000000 in
theorem refMark_any (n : Nd) (w : World) :
    Calls Try.prog 70 #[.agg #[.int .i64 n.kind, .int .i64 n.depth, .int .i64 n.sign, .int .i64 n.turn, .bool n.mir, .int .i64 n.state, .int .i64 n.mn, .int .i64 n.mx]] w fun e w' =>
      e = .returned (.agg #[.int .i64 (mkOf n).sign, .int .i64 (mkOf n).state, .int .i64 (mkOf n).mn, .int .i64 (mkOf n).mx]) ∧ Below w.heap.size w w' := by
  by_cases h : n.kind = 6
  · have e1 : (n.kind == 6) = true := by simp [h]
    have hm : mkOf n = ⟨-1, 0, n.mn, n.mx⟩ := if_pos h
    rw [hm]
    clear hm h
    go_enter Try.func70, Try.ntmps70
    go_wp2_with fail
    exact bodyPost_ret (v := .agg #[.int .i64 (-1), .int .i64 0, .int .i64 n.mn, .int .i64 n.mx]) (by simp [results, Try.results70, go_sem]) rfl ⟨rfl, ((Below.refl _ _).alloc (Nat.le_refl _) _).alloc (by simp) _⟩
  · have e1 : (n.kind == 6) = false := by simp [h]
    have hm : mkOf n = ⟨n.sign, n.state, 0, 0⟩ := if_neg h
    rw [hm]
    clear hm h
    go_enter Try.func70, Try.ntmps70
    go_wp2_with fail
    exact bodyPost_ret (v := .agg #[.int .i64 n.sign, .int .i64 n.state, .int .i64 0, .int .i64 0]) (by simp [results, Try.results70, go_sem]) rfl ⟨rfl, ((Below.refl _ _).alloc (Nat.le_refl _) _).alloc (by simp) _⟩
/-- A function that answers marks and an error. -/
def MksPost (E : Int) (L : List Mk) (w : World) (e : Ending) (w' : World) : Prop := ∃ v, e = .returned (.tuple #[v, .int .i64 E]) ∧ w'.ownsRow w.heap.size 70 4 v L.length (flatM L) ∧ Below w.heap.size w w'
noncomputable def linL (P : Int) (ss : List Sg) (l : List Nd) : List Mk := if chkE P ss l = 0 then marks l else []
theorem linL_bad {P : Int} {ss : List Sg} {l : List Nd} (h : chkE P ss l ≠ 0) : linL P ss l = [] := if_neg h
theorem linL_ok {P : Int} {ss : List Sg} {l : List Nd} (h : chkE P ss l = 0) : linL P ss l = marks l := if_pos h
set_option maxRecDepth 100000 in
set_option maxHeartbeats 4000000 in
theorem lineE_any (P : Int) (ss : List Sg) (l : List Nd) (hN : ss.length ≤ 1000000) (hv : ∀ s ∈ ss, s.vals.length ≤ 1000000 ∧ s.vals.length ≤ s.vc) (hn : l.length ≤ 1000000) (A A2 : Option Addr) (c c2 : Nat) (w : World) (rs : Sgs w w.heap.size A ss) (rn : Nds w w.heap.size A2 l) :
    Calls Try.prog 28 #[.agg #[.int .i64 P, .slice A ss.length c], .agg #[.slice A2 l.length c2]] w (MksPost (chkE P ss l) (linL P ss l) w) := by
  obtain ⟨w1, hw1⟩ : ∃ w1, w1 = (w.alloc (.cells #[.int .i64 P, .slice A ss.length c] 24)).alloc (.cells #[.slice A2 l.length c2] 27) := ⟨_, rfl⟩
  have hb1 : Below w.heap.size w w1 := by rw [hw1]; exact ((Below.refl _ _).alloc (Nat.le_refl _) _).alloc (by simp) _
  have hz1 : w1.heap.size = w.heap.size + 2 := by rw [hw1]; simp
  have c0 : w1.cell? ⟨w.heap.size, 0, none⟩ = some (.int .i64 P) := by rw [hw1]; exact cell_old (cell_here rfl rfl)
  have c1 : w1.cell? ⟨w.heap.size, 1, none⟩ = some (.slice A ss.length c) := by rw [hw1]; exact cell_old (cell_here rfl rfl)
  have c3 : w1.cell? ⟨w.heap.size + 1, 0, none⟩ = some (.slice A2 l.length c2) := by rw [hw1]; exact cell_here (by simp) rfl
  have HCK := hid (check_any P ss l hN hv hn A A2 c c2 w1 ((rs.below hb1).more (by omega)) ((rn.below hb1).more (by omega)))
  have HLI := hid fun (h : chkE P ss l = 0) (W : World) (hb : Below w.heap.size w W) => line_any l hn (good_hon h) A2 c2 W.heap.size W (Nat.le_refl _) ((rn.below hb).more hb.size)
  have m1 := linL_bad (P := P) (ss := ss) (l := l); have m2 := linL_ok (P := P) (ss := ss) (l := l)
  generalize linL P ss l = L at m1 m2 ⊢
  generalize chkE P ss l = CE at HCK HLI m1 m2
  have M1 := hid m1; have M2 := hid m2
  clear m1 m2
  generalize ss.length = N at HCK c1 hw1 ⊢
  generalize l.length = n at HCK HLI c3 hw1 ⊢
  have HW1 := hid hw1; have HB1 := hid hb1
  have hzz : w.heap.size + 1 < w1.heap.size := by omega
  have HC3 := hid fun (wr : World) (h : Below w1.heap.size w1 wr) => (h.cell (p := ⟨w.heap.size + 1, 0, none⟩) hzz).trans c3
  have HW : Hid (∀ wr, Below w1.heap.size w1 wr → Below w.heap.size w wr) := fun wr h => hb1.trans (h.mono (by omega))
  clear hw1 hb1 hz1 rs rn hv hN
  go_enter Try.func28, Try.ntmps28
  go_upto_region 1 with (fail)
  rw [← HW1.out]
  clear HW1
  obtain ⟨B0, hB0⟩ : ∃ B0, B0 = w.heap.size := ⟨_, rfl⟩
  obtain ⟨B1, hB1⟩ : ∃ B1, B1 = B0 + 1 := ⟨_, rfl⟩
  rw [← hB0, ← hB1] at c3 HC3 hzz
  rw [← hB0] at c0 c1 ⊢
  rw [← hB1]
  clear hB0 hB1
  by_cases hCE : CE = 0
  · have f0 : (CE != 0) = false := by simp [hCE]
    have x2 := M2.out hCE
    replace HLI := hid (HLI.out hCE)
    have X2 := hid x2
    clear M1 M2 x2
    subst hCE
    go_wp2_with (first | (go_at_call 19; refine HCK.out.mono ?_; rintro e w2 ⟨rfl, hb2⟩; have p2 := HC3.out w2 hb2; have HC2 := hid (HLI.out w2 (HW.out _ hb2)); have HB2 := hid hb2; clear hb2 HCK c0 c1 c3) | (go_at_call 68; refine HC2.out.mono ?_; rintro e w5 ⟨v5, rfl, ho5, hb5⟩; have HO5 := hid (own_base ho5 (HW.out _ HB2.out).size); have HB5 := hid (HW.out _ (HB2.out.trans (hb5.mono HB2.out.size))); clear ho5 hb5))
    go_ret2
    exact ⟨_, rfl, by rw [X2.out]; exact HO5.out, HB5.out⟩
  · have f0 : (CE != 0) = true := by simp [hCE]
    have x2 := M1.out hCE
    have X2 := hid x2
    clear x2
    clear M1 M2 hCE
    go_wp2_with (first | (go_at_call 19; refine HCK.out.mono ?_; rintro e w2 ⟨rfl, hb2⟩; have HB2 := hid hb2; clear hb2 HCK c0 c1 c3))
    go_ret2
    exact ⟨.slice none 0 0, rfl, by rw [X2.out]; exact World.ownsRow_nil _ _ _ _, HW.out _ HB2.out⟩
theorem lvs_mem {l : List Nd} : ∀ (f : Nat) (node : Int), -1 ≤ node → node < l.length → ∀ x ∈ lvs l f node, x < l.length
  | 0, _, _, _, x, h => by unfold lvs at h; cases h
  | f + 1, node, h1, h2, x, h => by
    unfold lvs at h
    split at h
    · rename_i h3
      obtain rfl := List.mem_singleton.1 h
      omega
    · obtain ⟨k, hk, hx⟩ := List.mem_flatMap.1 h
      have := kidsOf_mem h1 h2 (ordK_mem hk)
      exact lvs_mem f k (by omega) (by omega) x hx
theorem leaves_lt {l : List Nd} {x : Nat} (h : x ∈ leaves l) : x < l.length := lvs_mem _ _ (by omega) (by omega) x h
theorem leaves_len (l : List Nd) : (leaves l).length ≤ l.length := lvs_all _
set_option maxRecDepth 100000 in
set_option maxHeartbeats 8000000 in
theorem refLine_any (P : Int) (ss : List Sg) (l : List Nd) (hN : ss.length ≤ 1000000) (hv : ∀ s ∈ ss, s.vals.length ≤ 1000000) (hn : l.length ≤ 1000000) (A A2 : Option Addr) (c c2 : Nat) (w : World) (rs : Sgs w w.heap.size A ss) (rn : Nds w w.heap.size A2 l) :
    Calls Try.prog 29 #[.agg #[.int .i64 P, .slice A ss.length c], .agg #[.slice A2 l.length c2]] w (MksPost (chkE P ss l) (linL P ss l) w) := by
  obtain ⟨w1, hw1⟩ : ∃ w1, w1 = (w.alloc (.cells #[.int .i64 P, .slice A ss.length c] 24)).alloc (.cells #[.slice A2 l.length c2] 27) := ⟨_, rfl⟩
  have hb1 : Below w.heap.size w w1 := by rw [hw1]; exact ((Below.refl _ _).alloc (Nat.le_refl _) _).alloc (by simp) _
  have hz1 : w1.heap.size = w.heap.size + 2 := by rw [hw1]; simp
  have c0 : w1.cell? ⟨w.heap.size, 0, none⟩ = some (.int .i64 P) := by rw [hw1]; exact cell_old (cell_here rfl rfl)
  have c1 : w1.cell? ⟨w.heap.size, 1, none⟩ = some (.slice A ss.length c) := by rw [hw1]; exact cell_old (cell_here rfl rfl)
  have c3 : w1.cell? ⟨w.heap.size + 1, 0, none⟩ = some (.slice A2 l.length c2) := by rw [hw1]; exact cell_here (by simp) rfl
  have HCK := hid (refCheck_any P ss l hN hv hn A A2 c c2 w1 ((rs.below hb1).more (by omega)) ((rn.below hb1).more (by omega)))
  have HLV := hid fun (h : chkE P ss l = 0) (W : World) (hb : Below w.heap.size w W) => refLeaves_any l (good_of (chkE_zero h).2.2.1).wf (good_of (chkE_zero h).2.2.1).deps hn (good_hon h) A2 c2 (l.length + 1) (-1) W (by omega) (by omega) (by omega) ((rn.below hb).more hb.size)
  have m1 := linL_bad (P := P) (ss := ss) (l := l); have m2 := linL_ok (P := P) (ss := ss) (l := l)
  have hle := leaves_len l
  have hlm := fun x (h : x ∈ leaves l) => leaves_lt h
  have hmk : marks l = (leaves l).map (mkAt l) := rfl
  rw [hmk] at m2
  unfold leaves at hle hlm m2
  generalize lvs l (l.length + 1) (-1) = LV at HLV hle hlm m2
  generalize linL P ss l = L at m1 m2 ⊢
  generalize chkE P ss l = CE at HCK HLV m1 m2
  have M1 := hid m1; have M2 := hid m2; have HLM := hid hlm
  clear m1 m2 hmk hlm
  generalize ss.length = N at HCK c1 hw1 ⊢
  obtain ⟨n, hnn⟩ : ∃ n, n = l.length := ⟨_, rfl⟩
  rw [← hnn] at HCK HLV c3 hw1 hle hn ⊢
  have HW1 := hid hw1; have HB1 := hid hb1; have HR := hid rn; have HNN := hid hnn
  have hzz : w.heap.size + 1 < w1.heap.size := by omega
  have HC3 := hid fun (wr : World) (h : Below w1.heap.size w1 wr) => (h.cell (p := ⟨w.heap.size + 1, 0, none⟩) hzz).trans c3
  have HW : Hid (∀ wr, Below w1.heap.size w1 wr → Below w.heap.size w wr) := fun wr h => hb1.trans (h.mono (by omega))
  clear hw1 hb1 hz1 rs rn hv hN hnn
  go_enter Try.func29, Try.ntmps29
  go_upto_region 1 with (fail)
  rw [← HW1.out]
  clear HW1
  obtain ⟨B0, hB0⟩ : ∃ B0, B0 = w.heap.size := ⟨_, rfl⟩
  obtain ⟨B1, hB1⟩ : ∃ B1, B1 = B0 + 1 := ⟨_, rfl⟩
  rw [← hB0, ← hB1] at c3 HC3 hzz
  rw [← hB0] at c0 c1 ⊢
  rw [← hB1]
  clear hB0 hB1
  by_cases hCE : CE = 0
  · have f0 : (CE != 0) = false := by simp [hCE]
    have x2 := M2.out hCE
    replace HLV := hid (HLV.out hCE)
    have X2 := hid x2
    clear M1 M2 x2
    subst hCE
    go_wp2_with (first | (go_at_call 20; refine HCK.out.mono ?_; rintro e w2 ⟨rfl, hb2⟩; have p2 := HC3.out w2 hb2; have HC2 := hid (HLV.out w2 (HW.out _ hb2)); have HB2 := hid hb2; clear hb2 HCK c0 c1 c3) | (go_at_call 69; refine HC2.out.mono ?_; rintro e w5 ⟨v5, rfl, ho5, hb5⟩; obtain ⟨A5, c5, rfl⟩ := own_slice ho5; have HL5 := hid (show Rd w5 w5.heap.size A5 (nz LV) from by unfold Rd; rw [nz_len]; exact Reads.of_own ho5); have HB5 := hid (HB2.out.trans (hb5.mono HB2.out.size)); clear ho5 hb5))
    obtain ⟨m, hm⟩ : ∃ m, m = LV.length := ⟨_, rfl⟩
    have hnl : (nz LV).length = m := by rw [nz_len, hm]
    rw [← hm] at hle ⊢
    have HM := hid hm; have HNL := hid hnl
    clear hm hnl HC2 p2
    go_loopw [7, 9] (fun vv kv wr => ∃ k : Nat, k ≤ m ∧ kv = .int .i64 k ∧ Hid (wr.ownsRow w5.heap.size 70 4 vv k (flatM ((LV.take k).map (mkAt l)))) ∧ Hid (Below w5.heap.size w5 wr)) (fun _ kv _ => m - (intOf kv).toNat)
    case atStart => exact ⟨0, by omega, rfl, World.ownsRow_nil _ _ _ _, Below.refl _ _⟩
    case round =>
      obtain ⟨k, hk, rfl, hO, hB⟩ := hrel
      by_cases hkm : k < m
      · obtain ⟨A6, c6, rfl⟩ := own_slice hO.out
        have hb2 := HB5.out.trans (hB.out.mono HB5.out.size)
        have p2 := HC3.out wr hb2
        have hkl : k < LV.length := by rw [← HM.out]; exact hkm
        obtain ⟨b5, o5, rfl, hb5, hc5⟩ := HL5.out.at (by rw [HNL.out]; omega)
        have p5 := (hB.out.cell (p := ⟨b5, o5 + k, none⟩) hb5).trans (hc5 k (by rw [HNL.out]; exact hkm))
        rw [nth_nz hkl, List.getD_eq_getElem?_getD, List.getElem?_eq_getElem hkl, Option.getD_some] at p5
        have hx := HLM.out LV[k] (List.getElem_mem hkl)
        have hst : (LV.take (k + 1)).map (mkAt l) = (LV.take k).map (mkAt l) ++ [mkAt l LV[k]] := by rw [List.take_add_one, List.getElem?_eq_getElem hkl, Option.toList_some, List.map_append]; rfl
        generalize LV[k] = x at p5 hx hst
        obtain ⟨b, o, rfl, hbB, hc⟩ := HR.out.at (by omega)
        have hnd := (hc x hx).below (HW.out _ hb2) hbB
        have k1 := hnd.kind; have k2 := hnd.depth; have k3 := hnd.sign; have k4 := hnd.turn; have k5 := hnd.mir; have k6 := hnd.state; have k7 := hnd.mn; have k8 := hnd.mx
        have hma := fun w3 => refMark_any l[x] w3
        rw [← mkAt_at hx] at hma
        generalize mkAt l x = mk at hma hst
        generalize l[x] = nd at k1 k2 k3 k4 k5 k6 k7 k8 hma
        have hxn : x < n := by rw [HNN.out]; exact hx
        have hxn2 : (x : Int) < (n : Int) := by omega
        have g0 : (k : Int) < (m : Int) := by omega
        generalize (LV.take k).map (mkAt l) = D0 at hst hO
        have hO2 := hO.out
        have HMA := hid hma; have HST := hid hst; have HO2 := hid hO2; have HB := hid hB.out
        clear hma hst hO hO2 hnd hc hx hc5 hb5 hkl hb2 hB
        go_wp2_with fail
        have HNX := hid fun (w3 : World) (v4 : Value) (w4 : World) (hb3 : Below wr.heap.size wr w3) (X : Obj) (ho4 : w4.ownsRow w5.heap.size 70 4 v4 (k + 1) (flatM (D0 ++ [mk]))) (hg4 : (w3.alloc X).grownBy w4 (Value.slice A6 k c6).ownBlock) =>
          show w4.ownsRow w5.heap.size 70 4 v4 (k + 1) (flatM ((LV.take (k + 1)).map (mkAt l))) ∧ Below w5.heap.size w5 w4 from by
            rw [HST.out]
            exact ⟨ho4, below_app (HB.out.trans ((hb3.alloc hb3.size _).mono HB.out.size)) (own_keep HO2.out (hb3.alloc hb3.size _)) hg4 (Nat.le_refl _) (Nat.le_trans HB.out.size (Nat.le_trans hb3.size (by simp)))⟩
        go_region_law (first
          | (refine step_mk rfl (.tmp 24) (.tmp 34) rfl w5.heap.size _ _ D0 rfl (own_keep HO2.out (HB3.out.alloc HB3.out.size _)) ⟨w3.heap.size, 0, none⟩ mk (by simp [Act.eval, Act.put]) (cell_news w3 mk.cells 70) (by omega) (Nat.le_trans HB.out.size (Nat.le_trans HB3.out.size (by simp))) ?_; intro v4 w4 ho4 hg4; have HO4 := hid (HNX.out w3 v4 w4 HB3.out _ ho4 hg4); obtain ⟨A8, c8, rfl⟩ := own_slice ho4; clear ho4 hg4)
          | (go_simp; go_at_call 70; refine (HMA.out _).mono ?_; rintro e w3 ⟨rfl, hb3⟩; have HB3 := hid ((Below.refl _ _).drew.trans hb3); clear hb3))
        all_goals
          go_wp2_with fail
          go_roundw
          case rel => exact ⟨k + 1, by omega, by go_num, HO4.out.1, HO4.out.2⟩
          case measure => simp [intOf]; omega
      · obtain rfl : m = k := by omega
        have g0 : decide (m < m) = false := by simp
        have hfull : LV.take m = LV := by rw [HM.out, List.take_length]
        have hO2 := hO.out
        rw [hfull] at hO2
        have HO2 := hid (own_base hO2 (HW.out _ HB5.out).size)
        have HF := hid hfull
        clear hO hO2 hfull
        go_wp2_with fail
        go_ret2
        exact ⟨_, rfl, by rw [X2.out, List.length_map, ← HM.out]; exact HO2.out, HW.out _ (HB5.out.trans (hB.out.mono HB5.out.size))⟩
  · have f0 : (CE != 0) = true := by simp [hCE]
    have x2 := M1.out hCE
    have X2 := hid x2
    clear x2
    clear M1 M2 hCE
    go_wp2_with (first | (go_at_call 20; refine HCK.out.mono ?_; rintro e w2 ⟨rfl, hb2⟩; have HB2 := hid hb2; clear hb2 HCK c0 c1 c3))
    go_ret2
    exact ⟨.slice none 0 0, rfl, by rw [X2.out]; exact World.ownsRow_nil _ _ _ _, HW.out _ HB2.out⟩
end Go.Proofs.Ytddbnggficlcfaa
