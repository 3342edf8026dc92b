/- PROVED: ostraconlaw02.GroupsReads returns true for every paper, and what it is given reads as before. Conditions: none. -/
import Derived.Test.YtddbnggficlcfaaFlt
import Derived.Test.YtddbnggficlcfaaKidsE
import Derived.Laws.OwnMore
import Derived.Deep.OwnRows
import Derived.Test.YtddbnggficlcfaaChk1
import Derived.Test.YtddbnggficlcfaaArgs
import Derived.Test.YtddbnggficlcfaaRight
import Derived.Test.YtddbnggficlcfaaKidsLaw
import Derived.Test.YtddbnggficlcfaaLinesLaw
import Derived.Test.YtddbnggficlcfaaTalLaw
import Derived.Test.YtddbnggficlcfaaTextLaw
import Derived.Test.YtddbnggficlcfaaPlainW
import Derived.Test.YtddbnggficlcfaaRowP
namespace Go.Proofs.Ytddbnggficlcfaa
open Go.RowKit Go.Shelf
/-- How many of some things count at each place. -/
def cv {α : Type} (p : Nat → α → Bool) (N : Nat) (xs : List α) : List Int := (List.range (N + 1)).map fun j => (xs.countP (p j) : Int)
theorem cv_len {α : Type} (p : Nat → α → Bool) (N : Nat) (xs : List α) : (cv p N xs).length = N + 1 := by simp [cv]
theorem cv_get {α : Type} (p : Nat → α → Bool) {N : Nat} (xs : List α) {j : Nat} (h : j < N + 1) : (cv p N xs).getD j 0 = (xs.countP (p j) : Int) := by
  unfold cv
  rw [List.getD_eq_getElem?_getD, List.getElem?_map, List.getElem?_range h]
  rfl
theorem cv_one {α : Type} {p : Nat → α → Bool} {N : Nat} {xs : List α} {x : α} {i : Nat} (hi : i < N + 1) (h : ∀ j, p j x = decide (j = i)) : cv p N (xs ++ [x]) = (cv p N xs).set i ((cv p N xs).getD i 0 + 1) := by
  refine List.ext_getElem (by simp [cv]) fun j h1 h2 => ?_
  have hj : j < N + 1 := by rw [cv_len] at h1; exact h1
  have hg := cv_get p xs hi
  have hl : ∀ (ys : List α) (h : j < (cv p N ys).length), (cv p N ys)[j] = (ys.countP (p j) : Int) := fun ys h => by
    simp [cv]
  rw [hl, List.countP_append, List.countP_cons, h, List.getElem_set]
  by_cases e : i = j
  · subst e
    rw [if_pos rfl, hg, decide_eq_true rfl, if_pos rfl]
    simp
  · rw [if_neg e, hl, decide_eq_false (fun h => e h.symm), if_neg (by decide)]
    simp
theorem cv_none {α : Type} {p : Nat → α → Bool} {N : Nat} {xs : List α} {x : α} (h : ∀ j, p j x = false) : cv p N (xs ++ [x]) = cv p N xs := by
  unfold cv
  refine List.map_congr_left fun j _ => ?_
  rw [List.countP_append, List.countP_cons, h, if_neg (by decide)]
  simp
theorem cv_nil {α : Type} (p : Nat → α → Bool) (N : Nat) : cv p N [] = List.replicate (N + 1) 0 := by
  refine List.ext_getElem (by simp [cv]) fun j h1 h2 => ?_
  rw [List.getElem_replicate]
  simp [cv]
/-- What counted answers. -/
def cntV (N : Nat) (l : List Nd) : List Int := cv (hit N) N l
theorem hit_gap {N : Nat} {n : Nd} (h : n.kind = 6) (j : Nat) : hit N j n = decide (j = 0) := by
  unfold hit
  refine decide_eq_decide.2 ⟨fun h2 => ?_, fun h2 => .inl ⟨h, h2⟩⟩
  rcases h2 with h2 | h2
  · exact h2.2
  · omega
theorem hit_sign {N s : Nat} {n : Nd} (h : n.kind = 1) (hs : n.sign = s) (hN : s < N) (j : Nat) : hit N j n = decide (j = s + 1) := by
  unfold hit
  refine decide_eq_decide.2 ⟨fun h2 => ?_, fun h2 => .inr ⟨h, by omega, by omega, by omega⟩⟩
  rcases h2 with h2 | h2 <;> omega
theorem hit_no {N : Nat} {n : Nd} (h : n.kind ≠ 6) (h1 : n.kind = 1 → n.sign < 0 ∨ N ≤ n.sign) (j : Nat) : hit N j n = false := by
  unfold hit
  refine decide_eq_false fun h2 => ?_
  rcases h2 with h2 | h2
  · exact h h2.1
  · have := h1 h2.1; omega
set_option maxRecDepth 100000 in
set_option maxHeartbeats 8000000 in
theorem counted_any (l : List Nd) (N : Nat) (hN : N ≤ 1000000) (hn : l.length ≤ 1000000) (A2 : Option Addr) (c2 : Nat) (w : World) (rn : Nds w w.heap.size A2 l) :
    Calls Try.prog 54 #[.agg #[.slice A2 l.length c2], .int .i64 (N : Int)] w fun e w' => ∃ v, e = .returned v ∧ w'.ownsRow w.heap.size 3 1 v (N + 1) (ints (cntV N l)) ∧ Below w.heap.size w w' := by
  obtain ⟨w1, hw1⟩ : ∃ w1, w1 = w.alloc (.cells #[.slice A2 l.length c2] 27) := ⟨_, rfl⟩
  have hb1 : Below w.heap.size w w1 := by rw [hw1]; exact (Below.refl _ _).alloc (Nat.le_refl _) _
  have hz1 : w1.heap.size = w.heap.size + 1 := by rw [hw1]; simp
  have c3 : w1.cell? ⟨w.heap.size, 0, none⟩ = some (.slice A2 l.length c2) := by rw [hw1]; exact cell_here rfl rfl
  obtain ⟨n, hnn⟩ : ∃ n, n = l.length := ⟨_, rfl⟩
  rw [← hnn] at c3 hw1 hn ⊢
  have HW1 := hid hw1; have HR := hid rn; have HNN := hid hnn
  have hzx : w.heap.size < w1.heap.size := by omega
  have HC3 := hid fun (wr : World) (h : Below w1.heap.size w1 wr) => (h.cell (p := ⟨w.heap.size, 0, none⟩) hzx).trans c3
  have HW : Hid (∀ wr, Below w1.heap.size w1 wr → Below w.heap.size w wr) := fun wr h => hb1.trans (h.mono (by omega))
  have hmk : ∀ W, (Instr.makeSlice 38 (.int .i64 ((N : Int) + 1)) (.int .i64 ((N : Int) + 1))).run Try.prog W = .ok (.slice (some ⟨W.heap.size, 0, none⟩) (N + 1) (N + 1)) (W.alloc (.cells (madeCells #[.int .i64 0] (N + 1)) 3)) := fun W => by
    have := run_make_row' (P := Try.prog) 38 3 (.int .i64 0) 8 Try.underlying38 Try.infoInt rfl .i64 .i64 (N + 1) (by omega) (by omega) W
    simpa using this
  clear hw1 hb1 hz1 rn hnn
  go_enter Try.func54, Try.ntmps54
  go_upto_region 1 with (fail)
  rw [← HW1.out]
  clear HW1
  obtain ⟨B0, hB0⟩ : ∃ B0, B0 = w.heap.size := ⟨_, rfl⟩
  rw [← hB0] at c3 HC3 hzx ⊢
  have HB0 := hid hB0
  clear hB0
  have hq : (N : Int) + 1 ≤ 1000001 := by omega
  go_upto_region 2 with (fail)
  clear hmk hq
  obtain ⟨B, hB⟩ : ∃ B, B = w1.heap.size := ⟨_, rfl⟩
  have hst : (w1.alloc (.cells (madeCells #[.int .i64 0] (N + 1)) 3)).ownsRow B 3 1 (.slice (some ⟨B, 0, none⟩) (N + 1) (N + 1)) (N + 1) (ints (cntV N (l.take 0))) := by
    have := own_lit w1 (B := B) 3 (madeCells #[.int .i64 0] (N + 1)) (n := N + 1) (size := 1) (by omega) (by simp [madeCells]) (by unfold maxLen; omega)
    rw [toList_madeCells_one, ← hB] at this
    have e : ints (cntV N (l.take 0)) = List.replicate (N + 1) (.int .i64 0) := by unfold cntV; rw [List.take_zero, cv_nil]; unfold ints; rw [List.map_replicate]
    rw [e]
    exact this
  have hsb : Below B w1 (w1.alloc (.cells (madeCells #[.int .i64 0] (N + 1)) 3)) := (Below.refl _ _).alloc (by omega) _
  rw [← hB] at hzx ⊢
  have HST := hid hst; have HSB := hid hsb; have HBb := hid hB
  obtain ⟨M, hM⟩ : ∃ M, M = N + 1 := ⟨_, rfl⟩
  rw [← hM] at HST HSB ⊢
  have HM := hid hM
  have hM1 : 0 < M := by omega
  have hM2 : M ≤ 1000001 := by omega
  clear hst hsb hB c3 hM
  go_wp2_with fail
  go_loopw [6] (fun kv wr => ∃ k : Nat, k ≤ n ∧ kv = .int .i64 k ∧ Hid (wr.ownsRow B 3 1 (.slice (some ⟨B, 0, none⟩) M M) M (ints (cntV N (l.take k)))) ∧ Hid (Below B w1 wr)) (fun kv _ => n - (intOf kv).toNat)
  case atStart => exact ⟨0, by omega, rfl, HST, HSB⟩
  case round =>
    obtain ⟨k, hk, rfl, hO, hBl⟩ := hrel
    have hbw : Below w1.heap.size w1 wr := by rw [← HBb.out]; exact hBl.out
    have q3 := HC3.out wr hbw
    have hzB : B < wr.heap.size := (hO.out.lt B rfl).2
    by_cases hkn : k < n
    · have hkl : k < l.length := by rw [← HNN.out]; exact hkn
      obtain ⟨b, o, rfl, hbB, hc⟩ := HR.out.at (by omega)
      have hx := (hc k hkl).below (HW.out _ hbw) hbB
      have hbB3 : b < B := by have := HB0.out; omega
      have htk : l.take (k + 1) = l.take k ++ [l[k]'hkl] := by rw [List.take_add_one, List.getElem?_eq_getElem hkl, Option.toList_some]
      have ha : ∀ i, i < N + 1 → (∀ j, hit N j (l[k]'hkl) = decide (j = i)) → cntV N (l.take (k + 1)) = (cntV N (l.take k)).set i ((cntV N (l.take k)).getD i 0 + 1) := fun i hi h => by rw [htk]; exact cv_one hi h
      have hz : (∀ j, hit N j (l[k]'hkl) = false) → cntV N (l.take (k + 1)) = cntV N (l.take k) := fun h => by rw [htk]; exact cv_none h
      have hbd : ∀ i, i < N + 1 → 0 ≤ (cntV N (l.take k)).getD i 0 ∧ (cntV N (l.take k)).getD i 0 ≤ k := fun i hi => by
        unfold cntV
        rw [cv_get _ _ hi]
        have := List.countP_le_length (p := hit N i) (l := l.take k)
        rw [List.length_take] at this
        omega
      have hcl := cv_len (hit N) N (l.take k)
      generalize l[k]'hkl = nd0 at hx ha hz
      obtain ⟨kk, dp, sg, tn, mi, st, mn, mx⟩ := nd0
      have d1 := hx.kind; have d3 := hx.sign
      simp only [] at d1 d3
      have g0 : (k : Int) < (n : Int) := by omega
      have HHA := hid ha; have HHZ := hid hz; have HBD := hid hbd; have HCL := hid hcl; have HO := hid hO.out; have HBL := hid hBl.out
      have HSET := hid fun (s : Nat) (x : Int) (hs : s < M) (hx : (cntV N (l.take k)).getD s 0 = x) (he : cntV N (l.take (k + 1)) = (cntV N (l.take k)).set s (x + 1)) => (show (wr.setCell ⟨B, s, none⟩ (.int .i64 (x + 1))).ownsRow B 3 1 (.slice (some ⟨B, 0, none⟩) M M) M (ints (cntV N (l.take (k + 1)))) from by
        have := (HO.out.stored s (.int .i64 (x + 1))).1
        rw [he]
        have e2 : ints ((cntV N (l.take k)).set s (x + 1)) = (ints (cntV N (l.take k))).set s (.int .i64 (x + 1)) := by unfold ints; rw [List.map_set]
        rw [e2]
        exact this)
      have HNB := hid fun (s : Nat) (v : Value) => HBL.out.setCell (p := ⟨B, s, none⟩) (Nat.le_refl _) v
      have HCE := hid fun (s : Nat) (hs : s < M) => (show wr.cell? ⟨B, s, none⟩ = some (.int .i64 ((cntV N (l.take k)).getD s 0)) ∧ wr.frozen? ⟨B, s, none⟩ = false from by
        have hcell := HO.out.cellAt s (by omega)
        rw [ints_get (by have := HCL.out; unfold cntV; rw [this, ← HM.out]; exact hs)] at hcell
        exact ⟨hcell, HO.out.frozenAt s⟩)
      clear hx hc ha hz hbd hcl hO hBl htk
      by_cases h6 : kk = 6
      · have f6 : (kk == 6) = true := by simp [h6]
        have f1 : (kk == 1) = false := by simp [h6]
        obtain ⟨p1, p2⟩ := HCE.out 0 hM1
        have hb := HBD.out 0 (by omega)
        have hst := HHA.out 0 (by omega) fun j => hit_gap h6 j
        generalize hxx : (cntV N (l.take k)).getD 0 0 = x at p1 hb hst
        have HSS := hid (HSET.out 0 x hM1 hxx hst)
        have hb5 : x ≤ 1000000 := by omega
        have hb6 := hb.1
        clear hst hb hxx h6
        go_wp2_with fail
        go_roundw
        case rel => exact ⟨k + 1, by omega, by go_num, HSS, hid (HNB.out _ _)⟩
        case measure => simp [intOf]; omega
      · have f6 : (kk == 6) = false := by simp [h6]
        by_cases h1 : kk = 1
        · have f1 : (kk == 1) = true := by simp [h1]
          by_cases hs : 0 ≤ sg ∧ sg < (N : Int)
          · obtain ⟨s, rfl⟩ : ∃ s : Nat, sg = s := ⟨sg.toNat, by omega⟩
            have hsN : s < N := by omega
            have f2 : decide ((s : Int) < (N : Int)) = true := decide_eq_true (by omega)
            have f4 : (s : Int) < (N : Int) := by omega
            have hs1 : s + 1 < M := by rw [HM.out]; omega
            have hs2 : (s : Int) + 1 < (M : Int) := by omega
            obtain ⟨p1, p2⟩ := HCE.out (s + 1) hs1
            have hb := HBD.out (s + 1) (by omega)
            have hst := HHA.out (s + 1) (by omega) fun j => hit_sign h1 rfl hsN j
            generalize hxx : (cntV N (l.take k)).getD (s + 1) 0 = x at p1 hb hst
            have HSS := hid (HSET.out (s + 1) x hs1 hxx hst)
            have hb5 : x ≤ 1000000 := by omega
            have hb6 := hb.1
            clear hst hb hxx h6 h1 hs
            go_wp2_with fail
            go_roundw
            case rel => exact ⟨k + 1, by omega, by go_num, HSS, hid (HNB.out _ _)⟩
            case measure => simp [intOf]; omega
          · have hst := HHZ.out fun j => hit_no h6 (fun _ => by show sg < 0 ∨ (N : Int) ≤ sg; omega) j
            have hcs : decide (0 ≤ sg) = false ∨ (decide (0 ≤ sg) = true ∧ decide (sg < (N : Int)) = false) := by
              simp only [decide_eq_true_eq, decide_eq_false_iff_not]; omega
            have HSS := hid hst
            clear hst h6 h1 hs
            rcases hcs with e1 | ⟨e1, e2⟩
            all_goals
              go_wp2_with fail
              go_roundw
              case rel => exact ⟨k + 1, by omega, by go_num, by rw [HSS.out]; exact HO, HBL⟩
              case measure => simp [intOf]; omega
        · have f1 : (kk == 1) = false := by simp [h1]
          have hst := HHZ.out fun j => hit_no h6 (fun h => absurd h h1) j
          have HSS := hid hst
          clear hst h6 h1
          go_wp2_with fail
          go_roundw
          case rel => exact ⟨k + 1, by omega, by go_num, by rw [HSS.out]; exact HO, HBL⟩
          case measure => simp [intOf]; omega
    · obtain rfl : n = k := by omega
      have g0 : decide (n < n) = false := by simp
      have HO := hid hO.out; have HBW := hid hbw
      clear hO hbw
      go_wp2_with fail
      go_ret
      refine ⟨_, rfl, ?_, HW.out _ HBW.out⟩
      have h9 := HO.out
      rw [HNN.out, List.take_length] at h9
      rw [← HM.out]
      exact own_base h9 (by have := HBb.out; have := (HW.out _ (Below.refl _ _)).size; omega)
end Go.Proofs.Ytddbnggficlcfaa

/- WALK: the law GroupsReads. -/
namespace Go.Proofs.Ytddbnggficlcfaa
open Go.RowKit
theorem plnL_core {P : Int} {ss ss' : List Sg} (h : ss'.map Sg.core = ss.map Sg.core) (l : List Nd) : plnL P ss' l = plnL P ss l := by unfold plnL; rw [chkE_core h]
theorem mirN_even {ss ss' : List Sg} (h : ∀ s, evenOf ss' s = evenOf ss s) : mirN ss' = mirN ss := by funext n; unfold mirN; rw [h]
theorem mrrL_core {P : Int} {ss ss' : List Sg} (h : ss'.map Sg.core = ss.map Sg.core) (l : List Nd) : mrrL P ss' l = mrrL P ss l := by unfold mrrL; rw [chkE_core h, mirN_even (evenOf_core h)]
/-- The texts that Reads looks at are valid and have the leaves of the text. -/
structure Rds (P : Int) (ss : List Sg) (l L : List Nd) : Prop where
  ok : chkE P ss L = 0
  len : L.length ≤ 200
  num : cntV ss.length L = cntV ss.length l
theorem Rds.of {P : Int} {ss : List Sg} {l L : List Nd} (h : chkE P ss l = 0) (hv : Val ss L) (hl : L.length ≤ l.length) (hc : ∀ j, cnt ss.length j L = cnt ss.length j l) : Rds P ss l L := by
  have hz := chkE_zero h
  refine ⟨of_val hz.1 (by omega) hv, by omega, ?_⟩
  unfold cntV cv
  refine List.map_congr_left fun j _ => ?_
  exact congrArg Int.ofNat (hc j)
theorem rds_plain {P : Int} {ss : List Sg} {l : List Nd} (h : chkE P ss l = 0) : Rds P ss l (plnL P ss l) := by
  rw [plnL_ok h]
  exact Rds.of h (val_of h).2.2.plain (plR_len _ _) fun j => cnt_plain_all l
theorem rds_mirror {P : Int} {ss : List Sg} {l : List Nd} (h : chkE P ss l = 0) : Rds P ss l (mrrL P ss l) := by
  rw [mrrL_ok h]
  exact Rds.of h (val_of h).2.2.mirror (by simp) fun j => cnt_mirror ss l
theorem rds_flat {P : Int} {ss : List Sg} {l : List Nd} (h : chkE P ss l = 0) : Rds P ss l (flaL P ss l) := by
  rw [flaL_ok h]
  exact Rds.of h (val_of h).2.2.flat (len_flat (val_of h).2.2) fun j => cnt_flat (val_of h).2.2 _ j
/-- What the marks count. -/
def cntM (N : Nat) (ms : List Mk) : List Int := cv (mhit N) N ms
theorem cntM_marks {ss : List Sg} {l : List Nd} (hv : Val ss l) : cntM ss.length (marks l) = cntV ss.length l := by
  unfold cntM cntV cv
  refine List.map_congr_left fun j _ => ?_
  exact congrArg Int.ofNat (cnt_marks hv j)
theorem mhit_at {N s : Nat} {m : Mk} (h : m.sign = (s : Int) - 1) (j : Nat) : mhit N j m = decide (j = s) := by
  unfold mhit
  exact decide_eq_decide.2 (by omega)
set_option maxRecDepth 100000 in
set_option maxHeartbeats 8000000 in
theorem reads_law (P : Int) (ss : List Sg) (l : List Nd) (A A2 : Option Addr) (c c2 : Nat) (hl : ss.length ≤ 9223372036854775807) (hv : ∀ s ∈ ss, s.vals.length ≤ 9223372036854775807) (w : World) (rs : Sgs w w.heap.size A ss) (rn : Nds w w.heap.size A2 l) :
    Calls Try.prog 13 #[.agg #[.int .i64 P, .slice A ss.length c, .slice A2 l.length c2]] w fun e w' => e = .returned (.bool true) ∧ Below w.heap.size w w' := by
  obtain ⟨r1, hr1⟩ : ∃ x : Bool, (x = true ↔ ¬ BigP ss l ∧ chkE P ss l = 0) := by
    by_cases h : ¬ BigP ss l ∧ chkE P ss l = 0
    · exact ⟨true, iff_of_true rfl h⟩
    · exact ⟨false, iff_of_false (by simp) h⟩
  have hsm := fun h : ¬ BigP ss l ∧ chkE P ss l = 0 => (⟨small_of h.1, h.2⟩ : (ss.length ≤ 30 ∧ l.length ≤ 210 ∧ ∀ s ∈ ss, s.vals.length ≤ 20) ∧ chkE P ss l = 0)
  obtain ⟨w1, hw1⟩ : ∃ w1, w1 = w.alloc (.cells #[.int .i64 P, .slice A ss.length c, .slice A2 l.length c2] 29) := ⟨_, rfl⟩
  have hb1 : Below w.heap.size w w1 := by rw [hw1]; exact (Below.refl _ _).alloc (Nat.le_refl _) _
  have hz1 : w.heap.size < w1.heap.size := by rw [hw1]; simp
  have c0 : w1.cell? ⟨w.heap.size, 0, none⟩ = some (.int .i64 P) := by rw [hw1]; exact cell_here rfl rfl
  have c1 : w1.cell? ⟨w.heap.size, 1, none⟩ = some (.slice A ss.length c) := by rw [hw1]; exact cell_here rfl rfl
  have c3 : w1.cell? ⟨w.heap.size, 2, none⟩ = some (.slice A2 l.length c2) := by rw [hw1]; exact cell_here rfl rfl
  have HBG := hid ((rightP_any P ss l A A2 c c2 hl hv w1 ((rs.below hb1).more hb1.size) ((rn.below hb1).more hb1.size)).mono fun e w' hb => hb.get hr1)
  have hF1 := fun (s1 : ss.length ≤ 30) (s2 : l.length ≤ 210) (s3 : ∀ s ∈ ss, s.vals.length ≤ 20) (ss' : List Sg) (A3 A4 : Option Addr) (c3 c4 : Nat) (W : World) (hp : Copies ss l ss' A3 A4 c3 c4 W) (h : Below w1.heap.size w1 W) =>
    (by have := lineE_any P ss' l (by rw [hp.len]; omega) (hp.vals s3) (by omega) A3 A4 c3 c4 W hp.sg hp.nd; rw [chkE_core hp.core l, linL_core hp.core l] at this; exact this.mono fun e w' hx => mks_out hx : Calls Try.prog 28 #[.agg #[.int .i64 P, .slice A3 ss'.length c3], .agg #[.slice A4 l.length c4]] W fun e w' => ∃ (A' : Option Addr) (c' : Nat), e = .returned (.tuple #[.slice A' (linL P ss l).length c', .int .i64 (chkE P ss l)]) ∧ Mks w' w'.heap.size A' (linL P ss l) ∧ Below W.heap.size W w')
  have hF2 := fun (s1 : ss.length ≤ 30) (s2 : l.length ≤ 210) (s3 : ∀ s ∈ ss, s.vals.length ≤ 20) (ss' : List Sg) (A3 A4 : Option Addr) (c3 c4 : Nat) (W : World) (hp : Copies ss l ss' A3 A4 c3 c4 W) (h : Below w1.heap.size w1 W) =>
    (by have := plainE_any P ss' l (by rw [hp.len]; omega) (hp.vals s3) (by omega) A3 A4 c3 c4 W hp.sg hp.nd; rw [chkE_core hp.core l, plnL_core hp.core l] at this; exact this.mono fun e w' hx => txt_own hx : Calls Try.prog 45 #[.agg #[.int .i64 P, .slice A3 ss'.length c3], .agg #[.slice A4 l.length c4]] W fun e w' => ∃ (A' : Option Addr) (c' : Nat), e = .returned (.tuple #[.agg #[.slice A' (plnL P ss l).length c'], .int .i64 (chkE P ss l)]) ∧ w'.ownsRow W.heap.size 78 8 (.slice A' (plnL P ss l).length c') (plnL P ss l).length (flatN (plnL P ss l)) ∧ Below W.heap.size W w')
  have hF3 := fun (s1 : ss.length ≤ 30) (s2 : l.length ≤ 210) (s3 : ∀ s ∈ ss, s.vals.length ≤ 20) (ss' : List Sg) (A3 A4 : Option Addr) (c3 c4 : Nat) (W : World) (hp : Copies ss l ss' A3 A4 c3 c4 W) (h : Below w1.heap.size w1 W) =>
    (by have := flatE_any P ss' l (by rw [hp.len]; omega) (hp.vals s3) (by omega) A3 A4 c3 c4 W hp.sg hp.nd; rw [chkE_core hp.core l, flaL_core hp.core l] at this; exact this.mono fun e w' hx => txt_own hx : Calls Try.prog 52 #[.agg #[.int .i64 P, .slice A3 ss'.length c3], .agg #[.slice A4 l.length c4]] W fun e w' => ∃ (A' : Option Addr) (c' : Nat), e = .returned (.tuple #[.agg #[.slice A' (flaL P ss l).length c'], .int .i64 (chkE P ss l)]) ∧ w'.ownsRow W.heap.size 78 8 (.slice A' (flaL P ss l).length c') (flaL P ss l).length (flatN (flaL P ss l)) ∧ Below W.heap.size W w')
  have hF4 := fun (s1 : ss.length ≤ 30) (s2 : l.length ≤ 210) (s3 : ∀ s ∈ ss, s.vals.length ≤ 20) (ss' : List Sg) (A3 A4 : Option Addr) (c3 c4 : Nat) (W : World) (hp : Copies ss l ss' A3 A4 c3 c4 W) (h : Below w1.heap.size w1 W) =>
    (by have := mirrorE_any P ss' l (by rw [hp.len]; omega) (hp.vals s3) (by omega) A3 A4 c3 c4 W hp.sg hp.nd; rw [chkE_core hp.core l, mrrL_core hp.core l] at this; exact this.mono fun e w' hx => txt_own hx : Calls Try.prog 47 #[.agg #[.int .i64 P, .slice A3 ss'.length c3], .agg #[.slice A4 l.length c4]] W fun e w' => ∃ (A' : Option Addr) (c' : Nat), e = .returned (.tuple #[.agg #[.slice A' (mrrL P ss l).length c'], .int .i64 (chkE P ss l)]) ∧ w'.ownsRow W.heap.size 78 8 (.slice A' (mrrL P ss l).length c') (mrrL P ss l).length (flatN (mrrL P ss l)) ∧ Below W.heap.size W w')
  have hRP := fun (h : chkE P ss l = 0) => rds_plain h
  have hRF := fun (h : chkE P ss l = 0) => rds_flat h
  have hRM := fun (h : chkE P ss l = 0) => rds_mirror h
  have hLM := fun (h : chkE P ss l = 0) => linL_ok h
  generalize plnL P ss l = L2 at hF2 hRP
  generalize flaL P ss l = L3 at hF3 hRF
  generalize mrrL P ss l = L4 at hF4 hRM
  generalize linL P ss l = M1 at hF1 hLM
  have hCN := fun (s1 : ss.length ≤ 30) (L : List Nd) (hL : L.length ≤ 210) (A5 : Option Addr) (c5 : Nat) (W : World) (r : Nds W W.heap.size A5 L) => counted_any L ss.length (by omega) (by omega) A5 c5 W r
  have hCK := fun (s1 : ss.length ≤ 30) (s3 : ∀ s ∈ ss, s.vals.length ≤ 20) (L : List Nd) (hL : L.length ≤ 210) (A5 : Option Addr) (c5 : Nat) (W : World) (h : Below w1.heap.size w1 W) (r : Nds W W.heap.size A5 L) =>
    refCheck_any P ss L (by omega) (fun s hs => by have := s3 s hs; omega) (by omega) A A5 c c5 W ((rs.below (hb1.trans (h.mono hb1.size))).more (Nat.le_trans hb1.size h.size)) r
  have hrs := rs; have hrn := rn
  obtain ⟨N, hN⟩ : ∃ N, N = ss.length := ⟨_, rfl⟩
  obtain ⟨n, hn⟩ : ∃ n, n = l.length := ⟨_, rfl⟩
  rw [← hN] at c1 hw1 HBG ⊢
  rw [← hn] at c3 hw1 HBG ⊢
  have HW1 := hid hw1; have HB1 := hid hb1; have HSM := hid hsm; have HR1 := hid hr1; have HNN := hid hN; have HNl := hid hn; have HRS := hid hrs; have HRN := hid hrn
  have HF1 := hid hF1; have HF2 := hid hF2; have HF3 := hid hF3; have HF4 := hid hF4; have HRP := hid hRP; have HRF := hid hRF; have HRM := hid hRM; have HLM := hid hLM; have HCN := hid hCN; have HCKK := hid hCK
  have HRA := hid fun (W : World) (h : Below w1.heap.size w1 W) => (rn.below (hb1.trans (h.mono hb1.size))).more (Nat.le_trans hb1.size h.size)
  clear hF1 hF2 hF3 hF4 hRP hRF hRM hLM hCN hCK
  have HW : Hid (∀ wr, Below w1.heap.size w1 wr → Below w.heap.size w wr) := fun wr h => hb1.trans (h.mono (by omega))
  have HWK := hid fun (W : World) => works_any W
  have HC0 := hid fun (wr : World) (h : Below w1.heap.size w1 wr) => (h.cell (p := ⟨w.heap.size, 0, none⟩) hz1).trans c0
  have HC1 := hid fun (wr : World) (h : Below w1.heap.size w1 wr) => (h.cell (p := ⟨w.heap.size, 1, none⟩) hz1).trans c1
  have HC3 := hid fun (wr : World) (h : Below w1.heap.size w1 wr) => (h.cell (p := ⟨w.heap.size, 2, none⟩) hz1).trans c3
  clear hw1 rs rn hsm hr1 hN hn hv hl hb1 hrs hrn
  go_enter Try.func13, Try.ntmps13
  go_upto_region 1 with (fail)
  rw [← HW1.out]
  clear HW1
  obtain ⟨B0, hB0⟩ : ∃ B0, B0 = w.heap.size := ⟨_, rfl⟩
  rw [← hB0] at c0 c1 c3 hz1 HC0 HC1 HC3 ⊢
  clear hB0
  cases r1 with
  | false =>
    go_wp2_with (first | (go_at_call 49; refine HBG.out.mono ?_; rintro e w2 ⟨rfl, hb2⟩; have HB2 := hid hb2; clear hb2 c0 c1 c3) | (go_at_call 16; refine (HWK.out _).mono ?_; rintro e w3 ⟨rfl, hb3⟩; have HB3 := hid (bnext HB2.out hb3); clear hb3))
    go_ret
    exact ⟨rfl, HW.out _ HB3.out⟩
  | true =>
    obtain ⟨⟨s1, s2, s3⟩, hck⟩ := HSM.out (HR1.out.1 (by simp))
    have HLI := hid fun (W : World) (h : Below w1.heap.size w1 W) => list_at (P := P) (c := c) (V := .slice A2 n c2) s1 s3 (HW.out _ (Below.refl _ _)) HRS.out W h
    have HTX := hid fun (W : World) (h : Below w1.heap.size w1 W) => text_at (P := P) (A := A) (N := N) (c := c) (c2 := c2) s2 (HW.out _ (Below.refl _ _)) HRN.out W h
    rw [← HNN.out] at HLI
    rw [← HNl.out] at HTX
    replace HF1 := hid (HF1.out s1 s2 s3); replace HF2 := hid (HF2.out s1 s2 s3); replace HF3 := hid (HF3.out s1 s2 s3); replace HF4 := hid (HF4.out s1 s2 s3)
    replace HRP := hid (HRP.out hck); replace HRF := hid (HRF.out hck); replace HRM := hid (HRM.out hck); replace HLM := hid (HLM.out hck); replace HCN := hid (HCN.out s1); replace HCKK := hid (HCKK.out s1 s3)
    rw [hck] at HF1 HF2 HF3 HF4
    rw [← HNl.out] at HF1 HF2 HF3 HF4
    rw [← HNN.out] at HCKK HCN
    have HCT := hid (HCN.out l s2)
    rw [← HNl.out] at HCT
    obtain ⟨nm, hnm⟩ : ∃ n1, n1 = M1.length := ⟨_, rfl⟩
    obtain ⟨n2, hn2⟩ : ∃ n1, n1 = L2.length := ⟨_, rfl⟩
    obtain ⟨n3, hn3⟩ : ∃ n1, n1 = L3.length := ⟨_, rfl⟩
    obtain ⟨n4, hn4⟩ : ∃ n1, n1 = L4.length := ⟨_, rfl⟩
    rw [← hnm] at HF1
    rw [← hn2] at HF2
    rw [← hn3] at HF3
    rw [← hn4] at HF4
    have hs2 : n2 ≤ 200 := by rw [hn2]; exact HRP.out.len
    have hs3 : n3 ≤ 200 := by rw [hn3]; exact HRF.out.len
    have hs4 : n4 ≤ 200 := by rw [hn4]; exact HRM.out.len
    have hsm : nm ≤ 210 := by rw [hnm, HLM.out]; exact Nat.le_trans (marks_len l) s2
    have HNM := hid hnm; have HN2 := hid hn2; have HN3 := hid hn3; have HN4 := hid hn4; have HCK0 := hid hck; have HS1 := hid s1
    clear hnm hn2 hn3 hn4 hck
    go_upto_region 3 with (first | (go_at_call 49; refine HBG.out.mono ?_; rintro e w2 ⟨rfl, hb2⟩; have HB2 := hid hb2; clear hb2 c0 c1 c3))
    have q0 := HC0.out w2 HB2.out; have q1 := HC1.out w2 HB2.out; have q3 := HC3.out w2 HB2.out
    go_region_held3 (fun w' => w'.cell? ⟨B0, 0, none⟩ = some (.int .i64 P) ∧ w'.cell? ⟨B0, 1, none⟩ = some (.slice A N c) ∧ w'.cell? ⟨B0, 2, none⟩ = some (.slice A2 n c2)) (first | exact ⟨q0, q1, q3⟩ | exact ⟨HC0.out _ HB30.out, HC1.out _ HB30.out, HC3.out _ HB30.out⟩ | exact ⟨HC0.out _ HB31.out, HC1.out _ HB31.out, HC3.out _ HB31.out⟩ | exact ⟨HC0.out _ HB32.out, HC1.out _ HB32.out, HC3.out _ HB32.out⟩ | exact ⟨cell_old (HC0.out _ HB32.out), cell_old (HC1.out _ HB32.out), cell_old (HC3.out _ HB32.out)⟩ | fail) (first | (go_at_call 17; refine (HLI.out _ (by first | exact HB2.out.drew | exact HB2.out)).mono ?_; rintro e w30 ⟨A30, c30, ss30, rfl, hl30, hb30⟩; have HL30 := hid hl30; have HB30 := hid (bnext (by first | exact HB2.out.drew | exact HB2.out) hb30); clear hl30 hb30) | (go_at_call 18; refine (HTX.out _ HB30.out).mono ?_; rintro e w31 ⟨A31, c31, rfl, ho31, hb31⟩; have HP31 := hid (Copies.mk' (c4 := c31) HL30.out hb31 (by rw [← HNl.out]; exact ho31)); have HB31 := hid (bnext HB30.out hb31); clear ho31 hb31) | (go_at_call 28; refine (HF1.out _ _ _ _ _ _ HP31.out HB31.out).mono ?_; rintro e w32 ⟨A32, c32, rfl, hr32, hb32⟩; have HR32 := hid hr32; have HB32 := hid (bnext HB31.out hb32); clear hr32; clear hb32))
    clear q0 q1 q3
    go_upto_region 4 with (fail)
    go_cut [5, 6] (fun s3 s4 wx => ∃ (b : Nat) (A' : Option Addr) (c' : Nat), s3 = .pointer (some ⟨b, 0, none⟩) ∧ s4 = .int .i64 0 ∧ Hid (Bx wx b (.slice A' n2 c')) ∧ Hid (Nds wx wx.heap.size A' L2) ∧ Hid (Below w32.heap.size w32 wx))
    case first =>
      have q0 := HC0.out w32 HB32.out; have q1 := HC1.out w32 HB32.out; have q3 := HC3.out w32 HB32.out
      have hsb : w1.heap.size ≤ w32.heap.size := HB32.out.size
      go_region_held3 (fun w' => w'.cell? ⟨B0, 0, none⟩ = some (.int .i64 P) ∧ w'.cell? ⟨B0, 1, none⟩ = some (.slice A N c) ∧ w'.cell? ⟨B0, 2, none⟩ = some (.slice A2 n c2)) (first | exact ⟨q0, q1, q3⟩ | exact ⟨HC0.out _ (bnext HB32.out (by first | exact HX42.out | exact bal HX42.out _ | exact HX41.out | exact bal HX41.out _ | exact HX40.out | exact bal HX40.out _ | exact (Below.refl _ _).drew | exact bal (Below.refl _ _).drew _ | exact (bal (Below.refl _ _) _).drew | exact Below.refl _ _ | exact bal (Below.refl _ _) _ | exact bst HX42.out HX41.out.size _ | exact bst HX42.out HX40.out.size _ | exact bst HX42.out HX42.out.size _ | exact bst HX42.out (Nat.le_refl _) _)), HC1.out _ (bnext HB32.out (by first | exact HX42.out | exact bal HX42.out _ | exact HX41.out | exact bal HX41.out _ | exact HX40.out | exact bal HX40.out _ | exact (Below.refl _ _).drew | exact bal (Below.refl _ _).drew _ | exact (bal (Below.refl _ _) _).drew | exact Below.refl _ _ | exact bal (Below.refl _ _) _ | exact bst HX42.out HX41.out.size _ | exact bst HX42.out HX40.out.size _ | exact bst HX42.out HX42.out.size _ | exact bst HX42.out (Nat.le_refl _) _)), HC3.out _ (bnext HB32.out (by first | exact HX42.out | exact bal HX42.out _ | exact HX41.out | exact bal HX41.out _ | exact HX40.out | exact bal HX40.out _ | exact (Below.refl _ _).drew | exact bal (Below.refl _ _).drew _ | exact (bal (Below.refl _ _) _).drew | exact Below.refl _ _ | exact bal (Below.refl _ _) _ | exact bst HX42.out HX41.out.size _ | exact bst HX42.out HX40.out.size _ | exact bst HX42.out HX42.out.size _ | exact bst HX42.out (Nat.le_refl _) _))⟩ | fail) (first | (go_at_call 17; refine (HLI.out _ (bnext HB32.out (by first | exact HX42.out | exact bal HX42.out _ | exact HX41.out | exact bal HX41.out _ | exact HX40.out | exact bal HX40.out _ | exact (Below.refl _ _).drew | exact bal (Below.refl _ _).drew _ | exact (bal (Below.refl _ _) _).drew | exact Below.refl _ _ | exact bal (Below.refl _ _) _ | exact bst HX42.out HX41.out.size _ | exact bst HX42.out HX40.out.size _ | exact bst HX42.out HX42.out.size _ | exact bst HX42.out (Nat.le_refl _) _))).mono ?_; rintro e w40 ⟨A40, c40, ss40, rfl, hl40, hb40⟩; have HL40 := hid hl40; have HX40 := hid (show Below w32.heap.size w32 w40 from bnext (by first | exact HX42.out | exact bal HX42.out _ | exact HX41.out | exact bal HX41.out _ | exact HX40.out | exact bal HX40.out _ | exact (Below.refl _ _).drew | exact bal (Below.refl _ _).drew _ | exact (bal (Below.refl _ _) _).drew | exact Below.refl _ _ | exact bal (Below.refl _ _) _ | exact bst HX42.out HX41.out.size _ | exact bst HX42.out HX40.out.size _ | exact bst HX42.out HX42.out.size _ | exact bst HX42.out (Nat.le_refl _) _) hb40); (first | (have bf := hid (Bxf.kept bf.out hb40); skip) | (have bf := hid (Bxf.kept (Bxf.new (w := w32) (b := w32.heap.size) rfl) hb40)) | (have bf := hid (Bxf.kept (Bxf.new (w := w32.drew) (b := w32.heap.size) rfl) hb40)) | skip); clear hl40 hb40) | (go_at_call 18; refine (HTX.out _ (bnext HB32.out (by first | exact HX42.out | exact bal HX42.out _ | exact HX41.out | exact bal HX41.out _ | exact HX40.out | exact bal HX40.out _ | exact (Below.refl _ _).drew | exact bal (Below.refl _ _).drew _ | exact (bal (Below.refl _ _) _).drew | exact Below.refl _ _ | exact bal (Below.refl _ _) _ | exact bst HX42.out HX41.out.size _ | exact bst HX42.out HX40.out.size _ | exact bst HX42.out HX42.out.size _ | exact bst HX42.out (Nat.le_refl _) _))).mono ?_; rintro e w41 ⟨A41, c41, rfl, ho41, hb41⟩; have HP41 := hid (Copies.mk' (c4 := c41) HL40.out (bnext (by first | exact Below.refl _ _ | exact bal (Below.refl _ _) _) hb41) (by rw [← HNl.out]; exact ho41)); have HX41 := hid (show Below w32.heap.size w32 w41 from bnext (by first | exact HX42.out | exact bal HX42.out _ | exact HX41.out | exact bal HX41.out _ | exact HX40.out | exact bal HX40.out _ | exact (Below.refl _ _).drew | exact bal (Below.refl _ _).drew _ | exact (bal (Below.refl _ _) _).drew | exact Below.refl _ _ | exact bal (Below.refl _ _) _ | exact bst HX42.out HX41.out.size _ | exact bst HX42.out HX40.out.size _ | exact bst HX42.out HX42.out.size _ | exact bst HX42.out (Nat.le_refl _) _) hb41); (first | (have bf := hid (Bxf.kept bf.out hb41); skip) | (have bf := hid (Bxf.kept (Bxf.new (w := w40) (b := w40.heap.size) rfl) hb41)) | (have bf := hid (Bxf.kept (Bxf.new (w := w40.drew) (b := w40.heap.size) rfl) hb41)) | skip); clear ho41 hb41) | (go_at_call 45; refine (HF2.out _ _ _ _ _ _ (HP41.out.below (by first | exact Below.refl _ _ | exact bal (Below.refl _ _) _)) (bnext HB32.out (by first | exact HX42.out | exact bal HX42.out _ | exact HX41.out | exact bal HX41.out _ | exact HX40.out | exact bal HX40.out _ | exact (Below.refl _ _).drew | exact bal (Below.refl _ _).drew _ | exact (bal (Below.refl _ _) _).drew | exact Below.refl _ _ | exact bal (Below.refl _ _) _ | exact bst HX42.out HX41.out.size _ | exact bst HX42.out HX40.out.size _ | exact bst HX42.out HX42.out.size _ | exact bst HX42.out (Nat.le_refl _) _))).mono ?_; rintro e w42 ⟨A42, c42, rfl, hr42, hb42⟩; have HR42 := hid (show Nds w42 w42.heap.size A42 L2 from Reads.of_own (by rw [← HN2.out]; exact hr42)); (first | (have bo := hid (Bxf.own bf.out hb42 hr42 HN2.out); skip) | (have bo := hid (Bxf.own (Bxf.new (w := w41) (b := w41.heap.size) rfl) hb42 hr42 HN2.out)) | skip); have HX42 := hid (show Below w32.heap.size w32 w42 from bnext (by first | exact HX42.out | exact bal HX42.out _ | exact HX41.out | exact bal HX41.out _ | exact HX40.out | exact bal HX40.out _ | exact (Below.refl _ _).drew | exact bal (Below.refl _ _).drew _ | exact (bal (Below.refl _ _) _).drew | exact Below.refl _ _ | exact bal (Below.refl _ _) _ | exact bst HX42.out HX41.out.size _ | exact bst HX42.out HX40.out.size _ | exact bst HX42.out HX42.out.size _ | exact bst HX42.out (Nat.le_refl _) _) hb42); (first | (have bf := hid (Bxf.kept bf.out hb42); skip) | (have bf := hid (Bxf.kept (Bxf.new (w := w41) (b := w41.heap.size) rfl) hb42)) | (have bf := hid (Bxf.kept (Bxf.new (w := w41.drew) (b := w41.heap.size) rfl) hb42)) | skip); (first | (have bfc := bf.out.cell; have bff := bf.out.free) | skip); clear hr42 hb42))
      all_goals
        go_wp2_with fail
        go_meet
        first
          | exact ⟨_, _, _, rfl, rfl, hid bo.out.1, hid bo.out.2, hid (by first | exact HX42.out | exact bal HX42.out _ | exact HX41.out | exact bal HX41.out _ | exact HX40.out | exact bal HX40.out _ | exact (Below.refl _ _).drew | exact bal (Below.refl _ _).drew _ | exact (bal (Below.refl _ _) _).drew | exact Below.refl _ _ | exact bal (Below.refl _ _) _ | exact bst HX42.out HX41.out.size _ | exact bst HX42.out HX40.out.size _ | exact bst HX42.out HX42.out.size _ | exact bst HX42.out (Nat.le_refl _) _)⟩
          | exact ⟨_, _, _, rfl, rfl, hid (Bx.new rfl), hid (rdn HR42.out (bal (Below.refl _ _) _)), hid (bal HX42.out _)⟩
    obtain ⟨b4, A4, c4, rfl, rfl, BX4, HR4, HX4⟩ := hcut
    obtain ⟨w4, rfl⟩ : ∃ W, W = wc := ⟨_, rfl⟩
    have HB4 := hid (bnext HB32.out HX4.out)
    replace HR32 := hid (rdn HR32.out HX4.out)
    clear HX4
    go_upto_region 5 with (fail)
    go_cut [7, 8] (fun s3 s4 wx => ∃ (b : Nat) (A' : Option Addr) (c' : Nat), s3 = .pointer (some ⟨b, 0, none⟩) ∧ s4 = .int .i64 0 ∧ Hid (Bx wx b (.slice A' n3 c')) ∧ Hid (Nds wx wx.heap.size A' L3) ∧ Hid (Below w4.heap.size w4 wx))
    case first =>
      have q0 := HC0.out w4 HB4.out; have q1 := HC1.out w4 HB4.out; have q3 := HC3.out w4 HB4.out
      have hsb : w1.heap.size ≤ w4.heap.size := HB4.out.size
      go_region_held3 (fun w' => w'.cell? ⟨B0, 0, none⟩ = some (.int .i64 P) ∧ w'.cell? ⟨B0, 1, none⟩ = some (.slice A N c) ∧ w'.cell? ⟨B0, 2, none⟩ = some (.slice A2 n c2)) (first | exact ⟨q0, q1, q3⟩ | exact ⟨HC0.out _ (bnext HB4.out (by first | exact HX52.out | exact bal HX52.out _ | exact HX51.out | exact bal HX51.out _ | exact HX50.out | exact bal HX50.out _ | exact (Below.refl _ _).drew | exact bal (Below.refl _ _).drew _ | exact (bal (Below.refl _ _) _).drew | exact Below.refl _ _ | exact bal (Below.refl _ _) _ | exact bst HX52.out HX51.out.size _ | exact bst HX52.out HX50.out.size _ | exact bst HX52.out HX52.out.size _ | exact bst HX52.out (Nat.le_refl _) _)), HC1.out _ (bnext HB4.out (by first | exact HX52.out | exact bal HX52.out _ | exact HX51.out | exact bal HX51.out _ | exact HX50.out | exact bal HX50.out _ | exact (Below.refl _ _).drew | exact bal (Below.refl _ _).drew _ | exact (bal (Below.refl _ _) _).drew | exact Below.refl _ _ | exact bal (Below.refl _ _) _ | exact bst HX52.out HX51.out.size _ | exact bst HX52.out HX50.out.size _ | exact bst HX52.out HX52.out.size _ | exact bst HX52.out (Nat.le_refl _) _)), HC3.out _ (bnext HB4.out (by first | exact HX52.out | exact bal HX52.out _ | exact HX51.out | exact bal HX51.out _ | exact HX50.out | exact bal HX50.out _ | exact (Below.refl _ _).drew | exact bal (Below.refl _ _).drew _ | exact (bal (Below.refl _ _) _).drew | exact Below.refl _ _ | exact bal (Below.refl _ _) _ | exact bst HX52.out HX51.out.size _ | exact bst HX52.out HX50.out.size _ | exact bst HX52.out HX52.out.size _ | exact bst HX52.out (Nat.le_refl _) _))⟩ | fail) (first | (go_at_call 17; refine (HLI.out _ (bnext HB4.out (by first | exact HX52.out | exact bal HX52.out _ | exact HX51.out | exact bal HX51.out _ | exact HX50.out | exact bal HX50.out _ | exact (Below.refl _ _).drew | exact bal (Below.refl _ _).drew _ | exact (bal (Below.refl _ _) _).drew | exact Below.refl _ _ | exact bal (Below.refl _ _) _ | exact bst HX52.out HX51.out.size _ | exact bst HX52.out HX50.out.size _ | exact bst HX52.out HX52.out.size _ | exact bst HX52.out (Nat.le_refl _) _))).mono ?_; rintro e w50 ⟨A50, c50, ss50, rfl, hl50, hb50⟩; have HL50 := hid hl50; have HX50 := hid (show Below w4.heap.size w4 w50 from bnext (by first | exact HX52.out | exact bal HX52.out _ | exact HX51.out | exact bal HX51.out _ | exact HX50.out | exact bal HX50.out _ | exact (Below.refl _ _).drew | exact bal (Below.refl _ _).drew _ | exact (bal (Below.refl _ _) _).drew | exact Below.refl _ _ | exact bal (Below.refl _ _) _ | exact bst HX52.out HX51.out.size _ | exact bst HX52.out HX50.out.size _ | exact bst HX52.out HX52.out.size _ | exact bst HX52.out (Nat.le_refl _) _) hb50); (first | (have bf := hid (Bxf.kept bf.out hb50); skip) | (have bf := hid (Bxf.kept (Bxf.new (w := w4) (b := w4.heap.size) rfl) hb50)) | (have bf := hid (Bxf.kept (Bxf.new (w := w4.drew) (b := w4.heap.size) rfl) hb50)) | skip); clear hl50 hb50) | (go_at_call 18; refine (HTX.out _ (bnext HB4.out (by first | exact HX52.out | exact bal HX52.out _ | exact HX51.out | exact bal HX51.out _ | exact HX50.out | exact bal HX50.out _ | exact (Below.refl _ _).drew | exact bal (Below.refl _ _).drew _ | exact (bal (Below.refl _ _) _).drew | exact Below.refl _ _ | exact bal (Below.refl _ _) _ | exact bst HX52.out HX51.out.size _ | exact bst HX52.out HX50.out.size _ | exact bst HX52.out HX52.out.size _ | exact bst HX52.out (Nat.le_refl _) _))).mono ?_; rintro e w51 ⟨A51, c51, rfl, ho51, hb51⟩; have HP51 := hid (Copies.mk' (c4 := c51) HL50.out (bnext (by first | exact Below.refl _ _ | exact bal (Below.refl _ _) _) hb51) (by rw [← HNl.out]; exact ho51)); have HX51 := hid (show Below w4.heap.size w4 w51 from bnext (by first | exact HX52.out | exact bal HX52.out _ | exact HX51.out | exact bal HX51.out _ | exact HX50.out | exact bal HX50.out _ | exact (Below.refl _ _).drew | exact bal (Below.refl _ _).drew _ | exact (bal (Below.refl _ _) _).drew | exact Below.refl _ _ | exact bal (Below.refl _ _) _ | exact bst HX52.out HX51.out.size _ | exact bst HX52.out HX50.out.size _ | exact bst HX52.out HX52.out.size _ | exact bst HX52.out (Nat.le_refl _) _) hb51); (first | (have bf := hid (Bxf.kept bf.out hb51); skip) | (have bf := hid (Bxf.kept (Bxf.new (w := w50) (b := w50.heap.size) rfl) hb51)) | (have bf := hid (Bxf.kept (Bxf.new (w := w50.drew) (b := w50.heap.size) rfl) hb51)) | skip); clear ho51 hb51) | (go_at_call 52; refine (HF3.out _ _ _ _ _ _ (HP51.out.below (by first | exact Below.refl _ _ | exact bal (Below.refl _ _) _)) (bnext HB4.out (by first | exact HX52.out | exact bal HX52.out _ | exact HX51.out | exact bal HX51.out _ | exact HX50.out | exact bal HX50.out _ | exact (Below.refl _ _).drew | exact bal (Below.refl _ _).drew _ | exact (bal (Below.refl _ _) _).drew | exact Below.refl _ _ | exact bal (Below.refl _ _) _ | exact bst HX52.out HX51.out.size _ | exact bst HX52.out HX50.out.size _ | exact bst HX52.out HX52.out.size _ | exact bst HX52.out (Nat.le_refl _) _))).mono ?_; rintro e w52 ⟨A52, c52, rfl, hr52, hb52⟩; have HR52 := hid (show Nds w52 w52.heap.size A52 L3 from Reads.of_own (by rw [← HN3.out]; exact hr52)); (first | (have bo := hid (Bxf.own bf.out hb52 hr52 HN3.out); skip) | (have bo := hid (Bxf.own (Bxf.new (w := w51) (b := w51.heap.size) rfl) hb52 hr52 HN3.out)) | skip); have HX52 := hid (show Below w4.heap.size w4 w52 from bnext (by first | exact HX52.out | exact bal HX52.out _ | exact HX51.out | exact bal HX51.out _ | exact HX50.out | exact bal HX50.out _ | exact (Below.refl _ _).drew | exact bal (Below.refl _ _).drew _ | exact (bal (Below.refl _ _) _).drew | exact Below.refl _ _ | exact bal (Below.refl _ _) _ | exact bst HX52.out HX51.out.size _ | exact bst HX52.out HX50.out.size _ | exact bst HX52.out HX52.out.size _ | exact bst HX52.out (Nat.le_refl _) _) hb52); (first | (have bf := hid (Bxf.kept bf.out hb52); skip) | (have bf := hid (Bxf.kept (Bxf.new (w := w51) (b := w51.heap.size) rfl) hb52)) | (have bf := hid (Bxf.kept (Bxf.new (w := w51.drew) (b := w51.heap.size) rfl) hb52)) | skip); (first | (have bfc := bf.out.cell; have bff := bf.out.free) | skip); clear hr52 hb52))
      all_goals
        go_wp2_with fail
        go_meet
        first
          | exact ⟨_, _, _, rfl, rfl, hid bo.out.1, hid bo.out.2, hid (by first | exact HX52.out | exact bal HX52.out _ | exact HX51.out | exact bal HX51.out _ | exact HX50.out | exact bal HX50.out _ | exact (Below.refl _ _).drew | exact bal (Below.refl _ _).drew _ | exact (bal (Below.refl _ _) _).drew | exact Below.refl _ _ | exact bal (Below.refl _ _) _ | exact bst HX52.out HX51.out.size _ | exact bst HX52.out HX50.out.size _ | exact bst HX52.out HX52.out.size _ | exact bst HX52.out (Nat.le_refl _) _)⟩
          | exact ⟨_, _, _, rfl, rfl, hid (Bx.new rfl), hid (rdn HR52.out (bal (Below.refl _ _) _)), hid (bal HX52.out _)⟩
    obtain ⟨b5, A5, c5, rfl, rfl, BX5, HR5, HX5⟩ := hcut
    obtain ⟨w5, rfl⟩ : ∃ W, W = wc := ⟨_, rfl⟩
    have HB5 := hid (bnext HB4.out HX5.out)
    replace HR32 := hid (rdn HR32.out HX5.out)
    replace HR4 := hid (rdn HR4.out HX5.out)
    replace BX4 := hid (bxn BX4.out HX5.out)
    clear HX5
    go_upto_region 6 with (fail)
    go_cut [9, 10] (fun s3 s4 wx => ∃ (b : Nat) (A' : Option Addr) (c' : Nat), s3 = .pointer (some ⟨b, 0, none⟩) ∧ s4 = .int .i64 0 ∧ Hid (Bx wx b (.slice A' n4 c')) ∧ Hid (Nds wx wx.heap.size A' L4) ∧ Hid (Below w5.heap.size w5 wx))
    case first =>
      have q0 := HC0.out w5 HB5.out; have q1 := HC1.out w5 HB5.out; have q3 := HC3.out w5 HB5.out
      have hsb : w1.heap.size ≤ w5.heap.size := HB5.out.size
      go_region_held3 (fun w' => w'.cell? ⟨B0, 0, none⟩ = some (.int .i64 P) ∧ w'.cell? ⟨B0, 1, none⟩ = some (.slice A N c) ∧ w'.cell? ⟨B0, 2, none⟩ = some (.slice A2 n c2)) (first | exact ⟨q0, q1, q3⟩ | exact ⟨HC0.out _ (bnext HB5.out (by first | exact HX62.out | exact bal HX62.out _ | exact HX61.out | exact bal HX61.out _ | exact HX60.out | exact bal HX60.out _ | exact (Below.refl _ _).drew | exact bal (Below.refl _ _).drew _ | exact (bal (Below.refl _ _) _).drew | exact Below.refl _ _ | exact bal (Below.refl _ _) _ | exact bst HX62.out HX61.out.size _ | exact bst HX62.out HX60.out.size _ | exact bst HX62.out HX62.out.size _ | exact bst HX62.out (Nat.le_refl _) _)), HC1.out _ (bnext HB5.out (by first | exact HX62.out | exact bal HX62.out _ | exact HX61.out | exact bal HX61.out _ | exact HX60.out | exact bal HX60.out _ | exact (Below.refl _ _).drew | exact bal (Below.refl _ _).drew _ | exact (bal (Below.refl _ _) _).drew | exact Below.refl _ _ | exact bal (Below.refl _ _) _ | exact bst HX62.out HX61.out.size _ | exact bst HX62.out HX60.out.size _ | exact bst HX62.out HX62.out.size _ | exact bst HX62.out (Nat.le_refl _) _)), HC3.out _ (bnext HB5.out (by first | exact HX62.out | exact bal HX62.out _ | exact HX61.out | exact bal HX61.out _ | exact HX60.out | exact bal HX60.out _ | exact (Below.refl _ _).drew | exact bal (Below.refl _ _).drew _ | exact (bal (Below.refl _ _) _).drew | exact Below.refl _ _ | exact bal (Below.refl _ _) _ | exact bst HX62.out HX61.out.size _ | exact bst HX62.out HX60.out.size _ | exact bst HX62.out HX62.out.size _ | exact bst HX62.out (Nat.le_refl _) _))⟩ | fail) (first | (go_at_call 17; refine (HLI.out _ (bnext HB5.out (by first | exact HX62.out | exact bal HX62.out _ | exact HX61.out | exact bal HX61.out _ | exact HX60.out | exact bal HX60.out _ | exact (Below.refl _ _).drew | exact bal (Below.refl _ _).drew _ | exact (bal (Below.refl _ _) _).drew | exact Below.refl _ _ | exact bal (Below.refl _ _) _ | exact bst HX62.out HX61.out.size _ | exact bst HX62.out HX60.out.size _ | exact bst HX62.out HX62.out.size _ | exact bst HX62.out (Nat.le_refl _) _))).mono ?_; rintro e w60 ⟨A60, c60, ss60, rfl, hl60, hb60⟩; have HL60 := hid hl60; have HX60 := hid (show Below w5.heap.size w5 w60 from bnext (by first | exact HX62.out | exact bal HX62.out _ | exact HX61.out | exact bal HX61.out _ | exact HX60.out | exact bal HX60.out _ | exact (Below.refl _ _).drew | exact bal (Below.refl _ _).drew _ | exact (bal (Below.refl _ _) _).drew | exact Below.refl _ _ | exact bal (Below.refl _ _) _ | exact bst HX62.out HX61.out.size _ | exact bst HX62.out HX60.out.size _ | exact bst HX62.out HX62.out.size _ | exact bst HX62.out (Nat.le_refl _) _) hb60); (first | (have bf := hid (Bxf.kept bf.out hb60); skip) | (have bf := hid (Bxf.kept (Bxf.new (w := w5) (b := w5.heap.size) rfl) hb60)) | (have bf := hid (Bxf.kept (Bxf.new (w := w5.drew) (b := w5.heap.size) rfl) hb60)) | skip); clear hl60 hb60) | (go_at_call 18; refine (HTX.out _ (bnext HB5.out (by first | exact HX62.out | exact bal HX62.out _ | exact HX61.out | exact bal HX61.out _ | exact HX60.out | exact bal HX60.out _ | exact (Below.refl _ _).drew | exact bal (Below.refl _ _).drew _ | exact (bal (Below.refl _ _) _).drew | exact Below.refl _ _ | exact bal (Below.refl _ _) _ | exact bst HX62.out HX61.out.size _ | exact bst HX62.out HX60.out.size _ | exact bst HX62.out HX62.out.size _ | exact bst HX62.out (Nat.le_refl _) _))).mono ?_; rintro e w61 ⟨A61, c61, rfl, ho61, hb61⟩; have HP61 := hid (Copies.mk' (c4 := c61) HL60.out (bnext (by first | exact Below.refl _ _ | exact bal (Below.refl _ _) _) hb61) (by rw [← HNl.out]; exact ho61)); have HX61 := hid (show Below w5.heap.size w5 w61 from bnext (by first | exact HX62.out | exact bal HX62.out _ | exact HX61.out | exact bal HX61.out _ | exact HX60.out | exact bal HX60.out _ | exact (Below.refl _ _).drew | exact bal (Below.refl _ _).drew _ | exact (bal (Below.refl _ _) _).drew | exact Below.refl _ _ | exact bal (Below.refl _ _) _ | exact bst HX62.out HX61.out.size _ | exact bst HX62.out HX60.out.size _ | exact bst HX62.out HX62.out.size _ | exact bst HX62.out (Nat.le_refl _) _) hb61); (first | (have bf := hid (Bxf.kept bf.out hb61); skip) | (have bf := hid (Bxf.kept (Bxf.new (w := w60) (b := w60.heap.size) rfl) hb61)) | (have bf := hid (Bxf.kept (Bxf.new (w := w60.drew) (b := w60.heap.size) rfl) hb61)) | skip); clear ho61 hb61) | (go_at_call 47; refine (HF4.out _ _ _ _ _ _ (HP61.out.below (by first | exact Below.refl _ _ | exact bal (Below.refl _ _) _)) (bnext HB5.out (by first | exact HX62.out | exact bal HX62.out _ | exact HX61.out | exact bal HX61.out _ | exact HX60.out | exact bal HX60.out _ | exact (Below.refl _ _).drew | exact bal (Below.refl _ _).drew _ | exact (bal (Below.refl _ _) _).drew | exact Below.refl _ _ | exact bal (Below.refl _ _) _ | exact bst HX62.out HX61.out.size _ | exact bst HX62.out HX60.out.size _ | exact bst HX62.out HX62.out.size _ | exact bst HX62.out (Nat.le_refl _) _))).mono ?_; rintro e w62 ⟨A62, c62, rfl, hr62, hb62⟩; have HR62 := hid (show Nds w62 w62.heap.size A62 L4 from Reads.of_own (by rw [← HN4.out]; exact hr62)); (first | (have bo := hid (Bxf.own bf.out hb62 hr62 HN4.out); skip) | (have bo := hid (Bxf.own (Bxf.new (w := w61) (b := w61.heap.size) rfl) hb62 hr62 HN4.out)) | skip); have HX62 := hid (show Below w5.heap.size w5 w62 from bnext (by first | exact HX62.out | exact bal HX62.out _ | exact HX61.out | exact bal HX61.out _ | exact HX60.out | exact bal HX60.out _ | exact (Below.refl _ _).drew | exact bal (Below.refl _ _).drew _ | exact (bal (Below.refl _ _) _).drew | exact Below.refl _ _ | exact bal (Below.refl _ _) _ | exact bst HX62.out HX61.out.size _ | exact bst HX62.out HX60.out.size _ | exact bst HX62.out HX62.out.size _ | exact bst HX62.out (Nat.le_refl _) _) hb62); (first | (have bf := hid (Bxf.kept bf.out hb62); skip) | (have bf := hid (Bxf.kept (Bxf.new (w := w61) (b := w61.heap.size) rfl) hb62)) | (have bf := hid (Bxf.kept (Bxf.new (w := w61.drew) (b := w61.heap.size) rfl) hb62)) | skip); (first | (have bfc := bf.out.cell; have bff := bf.out.free) | skip); clear hr62 hb62))
      all_goals
        go_wp2_with fail
        go_meet
        first
          | exact ⟨_, _, _, rfl, rfl, hid bo.out.1, hid bo.out.2, hid (by first | exact HX62.out | exact bal HX62.out _ | exact HX61.out | exact bal HX61.out _ | exact HX60.out | exact bal HX60.out _ | exact (Below.refl _ _).drew | exact bal (Below.refl _ _).drew _ | exact (bal (Below.refl _ _) _).drew | exact Below.refl _ _ | exact bal (Below.refl _ _) _ | exact bst HX62.out HX61.out.size _ | exact bst HX62.out HX60.out.size _ | exact bst HX62.out HX62.out.size _ | exact bst HX62.out (Nat.le_refl _) _)⟩
          | exact ⟨_, _, _, rfl, rfl, hid (Bx.new rfl), hid (rdn HR62.out (bal (Below.refl _ _) _)), hid (bal HX62.out _)⟩
    obtain ⟨b6, A6, c6, rfl, rfl, BX6, HR6, HX6⟩ := hcut
    obtain ⟨w6, rfl⟩ : ∃ W, W = wc := ⟨_, rfl⟩
    have HB6 := hid (bnext HB5.out HX6.out)
    replace HR32 := hid (rdn HR32.out HX6.out)
    replace HR4 := hid (rdn HR4.out HX6.out)
    replace BX4 := hid (bxn BX4.out HX6.out)
    replace HR5 := hid (rdn HR5.out HX6.out)
    replace BX5 := hid (bxn BX5.out HX6.out)
    clear HX6
    have q0 := HC0.out w6 HB6.out; have q1 := HC1.out w6 HB6.out; have q3 := HC3.out w6 HB6.out
    go_upto_region 10 with (first | (go_at_call 54; refine (HCT.out A2 c2 w6 (HRA.out _ HB6.out)).mono ?_; rintro e w7 ⟨v7, rfl, ho7, hb7⟩; obtain ⟨A7, c7, rfl⟩ := own_slice ho7; have HO7 := hid ho7; have HB7 := hid (bnext HB6.out hb7); replace HR32 := hid (rdn HR32.out hb7); replace HR4 := hid (rdn HR4.out hb7); replace BX4 := hid (bxn BX4.out hb7); replace HR5 := hid (rdn HR5.out hb7); replace BX5 := hid (bxn BX5.out hb7); replace HR6 := hid (rdn HR6.out hb7); replace BX6 := hid (bxn BX6.out hb7); clear ho7 hb7 q0 q1 q3))
    obtain ⟨M, hM⟩ : ∃ M, M = N + 1 := ⟨_, rfl⟩
    rw [← hM] at HO7 HCN ⊢
    have hN30 : N ≤ 30 := by have := HS1.out; rw [← HNN.out] at this; exact this
    have hM1 : 0 < M := by omega
    have hM2 : M ≤ 31 := by omega
    have HM := hid hM
    have hmk : ∀ W, (Instr.makeSlice 38 (.int .i64 (M : Int)) (.int .i64 (M : Int))).run Try.prog W = .ok (.slice (some ⟨W.heap.size, 0, none⟩) M M) (W.alloc (.cells (madeCells #[.int .i64 0] M) 3)) := fun W => by
      have := run_make_row' (P := Try.prog) 38 3 (.int .i64 0) 8 Try.underlying38 Try.infoInt rfl .i64 .i64 M (by omega) (by omega) W
      simpa using this
    clear hM
    go_upto_region 11 with (fail)
    clear hmk
    obtain ⟨B, hB⟩ : ∃ B, B = w7.heap.size := ⟨_, rfl⟩
    have hst : (w7.alloc (.cells (madeCells #[.int .i64 0] M) 3)).ownsRow B 3 1 (.slice (some ⟨B, 0, none⟩) M M) M (ints (cntM N (M1.take 0))) := by
      have := own_lit w7 (B := B) 3 (madeCells #[.int .i64 0] M) (n := M) (size := 1) (by omega) (by simp [madeCells]) (by unfold maxLen; omega)
      rw [toList_madeCells_one, ← hB] at this
      have e : ints (cntM N (M1.take 0)) = List.replicate M (.int .i64 0) := by unfold cntM; rw [List.take_zero, cv_nil, HM.out]; unfold ints; rw [List.map_replicate]
      rw [e]
      exact this
    have hsb : Below B w7 (w7.alloc (.cells (madeCells #[.int .i64 0] M) 3)) := (Below.refl _ _).alloc (by omega) _
    have hZ7 : w1.heap.size ≤ B := by rw [hB]; exact HB7.out.size
    rw [← hB]
    have HST := hid hst; have HSB := hid hsb; have HBb := hid hB
    clear hst hsb hB
    go_wp2_with fail
    go_loopw [13] (fun kv wr => ∃ k : Nat, k ≤ nm ∧ kv = .int .i64 k ∧ Hid (wr.ownsRow B 3 1 (.slice (some ⟨B, 0, none⟩) M M) M (ints (cntM N (M1.take k)))) ∧ Hid (Below B w7 wr)) (fun kv _ => nm - (intOf kv).toNat)
    case atStart => exact ⟨0, by omega, rfl, HST, HSB⟩
    case round =>
      obtain ⟨k, hk, rfl, hO, hBl⟩ := hrel
      have hbw : Below w1.heap.size w1 wr := HB7.out.trans (hBl.out.mono hZ7)
      have hzB : B < wr.heap.size := (hO.out.lt B rfl).2
      have HBr := hid hbw
      by_cases hkn : k < nm
      · have hkl : k < M1.length := by rw [← HNM.out]; exact hkn
        obtain ⟨b, o, hA, hbB, hc⟩ := Mks.at (l := M1) HR32.out (by omega)
        subst hA
        have hx := hc k hkl
        have d1 := (hBl.out.cell (p := ⟨b, o + k * 4, none⟩) (by rw [HBb.out]; exact hbB)).trans hx.sign
        have hsg := marks_sign (val_of HCK0.out).2.2 (m := M1[k]'hkl) (by rw [← HLM.out]; exact List.getElem_mem hkl)
        rw [← HNN.out] at hsg
        have htk : M1.take (k + 1) = M1.take k ++ [M1[k]'hkl] := by rw [List.take_add_one, List.getElem?_eq_getElem hkl, Option.toList_some]
        have ha : ∀ i, i < N + 1 → (∀ j, mhit N j (M1[k]'hkl) = decide (j = i)) → cntM N (M1.take (k + 1)) = (cntM N (M1.take k)).set i ((cntM N (M1.take k)).getD i 0 + 1) := fun i hi h => by rw [htk]; exact cv_one hi h
        generalize M1[k]'hkl = mm at d1 hsg ha
        obtain ⟨sg, m2, m3, m4⟩ := mm
        simp only [] at d1 hsg
        obtain ⟨s, hs⟩ : ∃ s : Nat, sg + 1 = s := ⟨(sg + 1).toNat, by omega⟩
        have hsM : s < M := by rw [HM.out]; omega
        have hst := ha s (by rw [← HM.out]; exact hsM) fun j => mhit_at (m := ⟨sg, m2, m3, m4⟩) (by show sg = _; omega) j
        have hcl := cv_len (mhit N) N (M1.take k)
        have p1 := hO.out.cellAt s (by omega)
        rw [ints_get (by unfold cntM; rw [hcl, ← HM.out]; exact hsM)] at p1
        have hb : 0 ≤ (cntM N (M1.take k)).getD s 0 ∧ (cntM N (M1.take k)).getD s 0 ≤ k := by
          unfold cntM
          rw [cv_get _ _ (by rw [← HM.out]; exact hsM)]
          have := List.countP_le_length (p := mhit N s) (l := M1.take k)
          rw [List.length_take] at this
          omega
        have p2 := hO.out.frozenAt s
        have hset := fun q => ((own_keep hO.out (below_drewN (Below.refl _ _) q)).stored s (.int .i64 ((cntM N (M1.take k)).getD s 0 + 1))).1
        have he : (ints (cntM N (M1.take k))).set s (.int .i64 ((cntM N (M1.take k)).getD s 0 + 1)) = ints (cntM N (M1.take (k + 1))) := by rw [hst]; unfold ints; rw [List.map_set]
        simp only [he] at hset
        have HNB := hid fun (q : Nat) (v : Value) => (below_drewN hBl.out q).setCell (p := ⟨B, s, none⟩) (Nat.le_refl _) v
        generalize (cntM N (M1.take k)).getD s 0 = x at p1 hb hset
        have HSS := hid hset
        have g0 : (k : Int) < (nm : Int) := by omega
        have f1 : decide (sg < -1) = false := decide_eq_false (by omega)
        have f2 : decide ((N : Int) ≤ sg) = false := decide_eq_false (by omega)
        have f3 : ¬ sg < -1 := by omega
        have f4 : ¬ (N : Int) ≤ sg := by omega
        have hb5 : x ≤ 1000000 := by omega
        have hb6 := hb.1
        have hs2 : (s : Int) < (M : Int) := by omega
        have q1 := HC1.out wr HBr.out
        have q0 := HC0.out wr HBr.out
        have HHS := hid hs
        have hsg1 := hsg.1
        clear hst ha htk hx hc hsg hcl he hset hb hO hBl hbw
        go_wp2_with fail
        go_quiet (fail)
        go_wp2_with fail
        go_roundw
        case rel => exact ⟨k + 1, by omega, by go_num, hid (HSS.out _), hid (HNB.out _ _)⟩
        case measure => simp [intOf]; omega
      · obtain rfl : k = nm := by omega
        have g0 : decide (k < k) = false := by simp
        have hlen : M = (cntV N l).length := by unfold cntV; rw [cv_len, HM.out]
        have hG := hO.out
        rw [HNM.out, List.take_length, HLM.out, HNN.out, cntM_marks (val_of HCK0.out).2.2, ← HNN.out] at hG
        have hX7 : Below w7.heap.size w7 wr := by have := hBl.out; rwa [HBb.out] at this
        have HS17 := hid (ints_same M hlen (by omega) M c7 (show Rd wr wr.heap.size (some ⟨B, 0, none⟩) (cntV N l) from by unfold Rd; rw [← hlen]; exact Reads.of_own hG) (show Rd wr wr.heap.size A7 (cntV N l) from by unfold Rd; rw [← hlen]; exact Reads.of_own (own_keep HO7.out hX7)))
        have HX7 := hid hX7
        have HLEN := hid hlen
        clear hlen hG hX7 hO hBl hbw
        go_upto_region 19 with (first | (go_at_call 27; refine HS17.out.mono ?_; rintro e w8 ⟨rfl, hb8⟩; have HB8 := hid (bnext HBr.out hb8); have HX8 := hid (bnext HX7.out hb8); clear hb8 HS17))
        have BX4' := hid (bxn BX4.out HX8.out); have BX5' := hid (bxn BX5.out HX8.out); have BX6' := hid (bxn BX6.out HX8.out)
        have y1 := BX4'.out.cell; have y2 := BX5'.out.cell; have y3 := BX6'.out.cell
        go_wp2_with fail
        obtain ⟨w9, hw9⟩ : ∃ W, W = w8.alloc (.cells #[.slice A4 n2 c4, .slice A5 n3 c5, .slice A6 n4 c6] 27) := ⟨_, rfl⟩
        obtain ⟨B9, hB9⟩ : ∃ b, b = w8.heap.size := ⟨_, rfl⟩
        have hX9 : Below w8.heap.size w8 w9 := by rw [hw9]; exact (Below.refl _ _).alloc (Nat.le_refl _) _
        have hX79 := bnext HX8.out hX9
        have HT3 := hid fun (j : Nat) (hj : j < 3) => (show ∃ (T : List Nd) (AT : Option Addr) (cT : Nat), w9.cell? ⟨B9, j, none⟩ = some (.slice AT T.length cT) ∧ Nds w9 w9.heap.size AT T ∧ Rds P ss l T from by
          match j, hj with
          | 0, _ => exact ⟨L2, A4, c4, by rw [hw9, ← HN2.out]; exact cell_here hB9 rfl, rdn HR4.out hX79, HRP.out⟩
          | 1, _ => exact ⟨L3, A5, c5, by rw [hw9, ← HN3.out]; exact cell_here hB9 rfl, rdn HR5.out hX79, HRF.out⟩
          | 2, _ => exact ⟨L4, A6, c6, by rw [hw9, ← HN4.out]; exact cell_here hB9 rfl, rdn HR6.out hX79, HRM.out⟩)
        have HA7 := hid (show Rd w9 w9.heap.size A7 (cntV N l) from by have := HLEN.out; unfold Rd; rw [← this]; exact Reads.of_own (own_keep HO7.out hX79))
        rw [← hw9, ← hB9]
        have HB9 := hid (bnext HB8.out hX9)
        clear hw9 hB9 hX9 hX79 y1 y2 y3 BX4' BX5' BX6'
        go_loopw [120] (fun kv wr => ∃ j : Nat, j ≤ 3 ∧ kv = .int .i64 j ∧ Hid (Below w9.heap.size w9 wr)) (fun kv _ => 3 - (intOf kv).toNat)
        case atStart => exact ⟨0, by omega, rfl, hid (Below.refl _ _)⟩
        case round =>
          obtain ⟨j, hj, rfl, hz⟩ := hrel
          have HBz := hid (bnext HB9.out hz.out)
          by_cases hj3 : j < 3
          · obtain ⟨T, AT, cT, hcT, hnT, hrT⟩ := HT3.out j hj3
            have z1 := (hz.out.cell (p := ⟨B9, j, none⟩) (World.block_lt_of_cell? _ _ hcT)).trans hcT
            have htl : T.length ≤ 210 := Nat.le_trans hrT.len (by omega)
            have HKT := hid fun (W : World) (h : Below w1.heap.size w1 W) (r : Nds W W.heap.size AT T) => HCKK.out T htl AT cT W h r
            rw [hrT.ok] at HKT
            have HCT2 := hid fun (W : World) (r : Nds W W.heap.size AT T) => HCN.out T htl AT cT W r
            have hnum := hrT.num
            rw [← HNN.out] at hnum
            rw [hnum] at HCT2
            obtain ⟨nT, hnt⟩ : ∃ n, n = T.length := ⟨_, rfl⟩
            rw [← hnt] at z1 HKT HCT2
            have HRT := hid hnT; have HZ := hid hz.out
            have g0 : (j : Int) < 3 := by omega
            clear hcT hnT hrT hnum htl hnt hz
            go_upto_region 22 with (fail)
            obtain ⟨wa, hwa⟩ : ∃ W, W = wr.alloc (.cells #[.slice AT nT cT] 27) := ⟨_, rfl⟩
            obtain ⟨bT, hbT⟩ : ∃ b, b = wr.heap.size := ⟨_, rfl⟩
            have BXT := hid (show Bx wa bT (.slice AT nT cT) from by rw [hwa]; exact Bx.new hbT)
            have HXa := hid (show Below wr.heap.size wr wa from by rw [hwa]; exact (Below.refl _ _).alloc (Nat.le_refl _) _)
            rw [← hwa, ← hbT]
            have HBa := hid (bnext HBz.out HXa.out); have HZa := hid (bnext HZ.out HXa.out)
            have q0 := HC0.out wa HBa.out; have q1 := HC1.out wa HBa.out
            have x1 := BXT.out.cell
            clear hwa hbT z1
            go_wp2_with (first | (go_at_call 20; refine (HKT.out wa HBa.out (rdn HRT.out HZa.out)).mono ?_; rintro e w22 ⟨rfl, hb22⟩; have HB22 := hid (bnext HBa.out hb22); have HZ22 := hid (bnext HZa.out hb22); have x2 := (bxn BXT.out hb22).cell; have q2 := HC1.out w22 HB22.out; have q4 := HC0.out w22 HB22.out; clear hb22 x1 q0 q1) | (go_at_call 54; refine (HCT2.out w22 (rdn HRT.out HZ22.out)).mono ?_; rintro e w23 ⟨v23, rfl, ho23, hb23⟩; obtain ⟨A23, c23, rfl⟩ := own_slice ho23; have HB23 := hid (bnext HB22.out hb23); have HZ23 := hid (bnext HZ22.out hb23); have HS23 := hid (ints_same M HLEN.out (by omega) c23 c7 (show Rd w23 w23.heap.size A23 (cntV N l) from by have := HLEN.out; unfold Rd; rw [← this]; exact Reads.of_own ho23) (rdn HA7.out HZ23.out)); clear ho23 hb23 x2 q2 q4) | (go_at_call 27; refine HS23.out.mono ?_; rintro e w24 ⟨rfl, hb24⟩; have HZ24 := hid (bnext HZ23.out hb24); clear hb24))
            go_roundw
            case rel => exact ⟨j + 1, by omega, by go_num, HZ24⟩
            case measure => simp [intOf]; omega
          · obtain rfl : j = 3 := by omega
            have hwk := HWK.out
            go_wp2_with (first | (go_at_call 16; refine (HWK.out _).mono ?_; rintro e w25 ⟨rfl, hb25⟩; have HB25 := hid (bnext HBz.out hb25); clear hb25))
            go_ret
            exact ⟨rfl, HW.out _ HB25.out⟩
end Go.Proofs.Ytddbnggficlcfaa

namespace Go.Proofs.Ytddbnggficlcfaa
open Go.ChangeShapes Go.WideShapes Go.ChangeAt Go.RowKit Go.Joins Go.Deep
theorem max63 {n : Nat} (h : n ≤ maxLen) : n ≤ 9223372036854775807 := h
theorem wf63 {n : Int} (h : (Lit.int .i64 n).wf = true) : -9223372036854775808 ≤ n ∧ n ≤ 9223372036854775807 := by
  simp only [Lit.wf, Bool.and_eq_true, decide_eq_true_eq] at h
  exact h
set_option maxRecDepth 100000 in
theorem reads_lifted (os : Os) (started : os.Started) (H : Type) (enc : TypeId × Value → H) :
    ReturnsInHanded {} Try.checked os 13 .any (Rows.groupsReadsSpec.pre6 enc Try.prog Try.f13 Rows.groupsReadsRow.domain false) (Rows.groupsReadsSpec.post enc Try.prog Try.f13 false true false false) := by
  refine returnsInHanded_of_change (C := Try.checked) row_own started (by kernel_rfl) Try.func13
    (ChangeSpec.witness6 (enc := enc) (C := Try.checked) false ⟨#[], #[.agg #[.int .i64 0, .slice none 0 0, .slice none 0 0]], []⟩ 8 (by kernel_rfl) (by kernel_rfl) (by kernel_rfl) (by kernel_rfl)) ?_
  intro W base args ds gs before hval0 hW hcnd _
  have hval : ∀ (j : Nat) t v, Try.f13.params[j]? = some t → args[j]? = some v → Value.okWide Try.prog W .any base t v := hval0
  have hW' := hW
  obtain ⟨p, q, hA0, hV, rfl, hfz, hnd⟩ := hW
  have hA : DataW.TrodAll enc Try.prog W 0 (fun _ => true) true Try.f13.params.toList args.toList ds p := hA0
  rw [Try.params13] at hA hval
  obtain ⟨v0, vs0, d0, ds0, p0, q0, hargs, rfl, rfl, h0, r0⟩ := trodAll_cons hA
  obtain ⟨rfl, rfl, rfl⟩ := trodAll_nil r0
  obtain rfl : args = #[v0] := by cases args; simp_all
  obtain ⟨rfl, rfl⟩ := trodVars_none hV
  have k0 := h0
  have lt0 : ∀ x ∈ p0, x.block < W.heap.size := by obtain ⟨m, hm⟩ := k0; exact DataW.trod_lt m _ _ _ hm
  obtain ⟨P, A, A2, ss, l, c, c2, rfl, hl, hv, hn, rs, rn⟩ := open_paper (hval 0 _ v0 rfl rfl) h0
  clear hA0 hval0
  refine (reads_law P ss l A A2 c c2 (max63 hl) (fun s hs => max63 (hv s hs)) W rs rn).mono fun e W' ⟨he, bel⟩ => ?_
  subst he
  exact ⟨_, rfl, _, _, _, [], _, [], hW', trodAll_mk1 (shut_bool Try.underlying4 _), (trodAll_cons_mk (Below.trod row_laid (by kernel_rfl) (of_decide_eq_true (by kernel_rfl)) k0 bel lt0) trodAll_mk0), rfl, bel.frame _, fun h => by cases h⟩
theorem reads_holds : Rows.GroupsReadsSaid :=
  OpenClaim.holds_of_wide 13 Try.f13 rfl rfl rfl rfl rfl rfl rfl ⟨rfl, rfl, rfl, rfl, rfl⟩ rfl rfl rfl rfl rfl (by kernel_rfl) Try.func13 (by kernel_rfl)
    (of_decide_eq_true (by kernel_rfl)) (by unfold Func.isWrapper; first | (rw [if_pos (by decide +kernel)]; kernel_rfl) | (rw [if_neg (by decide +kernel)]; exact ⟨rfl, rfl⟩))
    (fun os started H enc _ => reads_lifted os started H enc)
#print axioms reads_holds
end Go.Proofs.Ytddbnggficlcfaa
