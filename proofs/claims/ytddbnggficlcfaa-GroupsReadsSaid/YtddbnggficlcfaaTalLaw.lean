/- groups.Tally, ostraconref02.Tally. -/
import Derived.Test.YtddbnggficlcfaaTextL
import Derived.Test.YtddbnggficlcfaaKidsE
import Derived.Laws.OwnMore
import Derived.Deep.OwnRows
import Derived.Test.YtddbnggficlcfaaChk1
import Derived.Test.YtddbnggficlcfaaArgs
import Derived.Test.YtddbnggficlcfaaKidsLaw
import Derived.Test.YtddbnggficlcfaaFlatR
import Derived.Test.YtddbnggficlcfaaTextLaw
namespace Go.Proofs.Ytddbnggficlcfaa
open Go.RowKit Go.Shelf
/-- How often each sign stands among the first k nodes. -/
def cntL (l : List Nd) (N : Nat) : Nat → List Int
  | 0 => List.replicate N 0
  | k + 1 => if kd l k = 1 then (cntL l N k).set (nd l k).sign.toNat ((cntL l N k).getD (nd l k).sign.toNat 0 + 1) else cntL l N k
theorem cntL_len (l : List Nd) (N : Nat) : ∀ k, (cntL l N k).length = N
  | 0 => by simp [cntL]
  | k + 1 => by
    have := cntL_len l N k
    unfold cntL
    split
    · rw [List.length_set]; exact this
    · exact this
theorem cntL_bd (l : List Nd) (N : Nat) : ∀ k i, 0 ≤ (cntL l N k).getD i 0 ∧ (cntL l N k).getD i 0 ≤ k
  | 0, i => by
    unfold cntL
    rw [List.getD_eq_getElem?_getD, List.getElem?_replicate]
    split <;> simp
  | k + 1, i => by
    have h1 := cntL_bd l N k i
    have h2 := cntL_bd l N k (nd l k).sign.toNat
    unfold cntL
    split
    · rw [List.getD_eq_getElem?_getD, List.getElem?_set]
      rw [List.getD_eq_getElem?_getD] at h1
      split
      · split
        · simp only [Option.getD_some]
          omega
        · simp
          omega
      · omega
    · omega
noncomputable def tlyL (P : Int) (ss : List Sg) (l : List Nd) : List Int := if chkE P ss l = 0 then cntL l ss.length l.length else []
theorem tlyL_bad {P : Int} {ss : List Sg} {l : List Nd} (h : chkE P ss l ≠ 0) : tlyL P ss l = [] := if_neg h
theorem tlyL_ok {P : Int} {ss : List Sg} {l : List Nd} (h : chkE P ss l = 0) : tlyL P ss l = cntL l ss.length l.length := if_pos h
theorem tlyL_len {P : Int} {ss : List Sg} {l : List Nd} : (tlyL P ss l).length ≤ ss.length := by
  unfold tlyL
  split
  · rw [cntL_len]; exact Nat.le_refl _
  · simp
set_option maxRecDepth 100000 in
set_option maxHeartbeats 8000000 in
theorem tallyE_any (P : Int) (ss : List Sg) (l : List Nd) (hN : ss.length ≤ 1000000) (hv : ∀ s ∈ ss, s.vals.length ≤ 1000000 ∧ s.vals.length ≤ s.vc) (hn : l.length ≤ 1000000) (A A2 : Option Addr) (c c2 : Nat) (w : World) (rs : Sgs w w.heap.size A ss) (rn : Nds w w.heap.size A2 l) :
    Calls Try.prog 50 #[.agg #[.int .i64 P, .slice A ss.length c], .agg #[.slice A2 l.length c2]] w (IntsPost (chkE P ss l) (tlyL P ss l) w) := by
  obtain ⟨w1, hw1⟩ : ∃ w1, w1 = (w.alloc (.cells #[.int .i64 P, .slice A ss.length c] 24)).alloc (.cells #[.slice A2 l.length c2] 27) := ⟨_, rfl⟩
  have hb1 : Below w.heap.size w w1 := by rw [hw1]; exact ((Below.refl _ _).alloc (Nat.le_refl _) _).alloc (by simp) _
  have hz1 : w1.heap.size = w.heap.size + 2 := by rw [hw1]; simp
  have c0 : w1.cell? ⟨w.heap.size, 0, none⟩ = some (.int .i64 P) := by rw [hw1]; exact cell_old (cell_here rfl rfl)
  have c1 : w1.cell? ⟨w.heap.size, 1, none⟩ = some (.slice A ss.length c) := by rw [hw1]; exact cell_old (cell_here rfl rfl)
  have c3 : w1.cell? ⟨w.heap.size + 1, 0, none⟩ = some (.slice A2 l.length c2) := by rw [hw1]; exact cell_here (by simp) rfl
  have HCK := hid (check_any P ss l hN hv hn A A2 c c2 w1 ((rs.below hb1).more (by omega)) ((rn.below hb1).more (by omega)))
  have HSI := hid fun (h : chkE P ss l = 0) (k : Nat) (hk : k < l.length) (hk1 : kd l k = 1) => (show ∃ s : Nat, (nd l k).sign = s ∧ s < ss.length from by
    rw [kd_at hk] at hk1
    have := sign_ok h hk hk1
    rw [nd_at hk]
    exact ⟨l[k].sign.toNat, by omega, by omega⟩)
  have m1 := tlyL_bad (P := P) (ss := ss) (l := l); have m2 := tlyL_ok (P := P) (ss := ss) (l := l)
  generalize tlyL P ss l = L at m1 m2 ⊢
  generalize chkE P ss l = CE at HCK m1 m2 HSI
  have M1 := hid m1; have M2 := hid m2
  clear m1 m2
  obtain ⟨N, hNN⟩ : ∃ N, N = ss.length := ⟨_, rfl⟩
  rw [← hNN] at HCK c1 hw1 hN ⊢
  obtain ⟨n, hnn⟩ : ∃ n, n = l.length := ⟨_, rfl⟩
  rw [← hnn] at HCK c3 hw1 hn HSI ⊢
  try rw [← hnn] at M2
  have HW1 := hid hw1; have HB1 := hid hb1; have HR := hid rn; have HRS := hid rs; have HNN := hid hnn; have HNS := hid hNN
  have hzz : w.heap.size + 1 < w1.heap.size := by omega
  have hzx : w.heap.size < w1.heap.size := by omega
  have HC1 := hid fun (wr : World) (h : Below w1.heap.size w1 wr) => (h.cell (p := ⟨w.heap.size, 1, none⟩) hzx).trans c1
  have HC3 := hid fun (wr : World) (h : Below w1.heap.size w1 wr) => (h.cell (p := ⟨w.heap.size + 1, 0, none⟩) hzz).trans c3
  have HW : Hid (∀ wr, Below w1.heap.size w1 wr → Below w.heap.size w wr) := fun wr h => hb1.trans (h.mono (by omega))
  clear hw1 hb1 hz1 rs rn hv hnn hNN
  go_enter Try.func50, Try.ntmps50
  go_upto_region 1 with (fail)
  rw [← HW1.out]
  clear HW1
  obtain ⟨B0, hB0⟩ : ∃ B0, B0 = w.heap.size := ⟨_, rfl⟩
  obtain ⟨B1, hB1⟩ : ∃ B1, B1 = B0 + 1 := ⟨_, rfl⟩
  rw [← hB0, ← hB1] at c3 HC3 hzz
  rw [← hB0] at c0 c1 HC1 hzx
  have HB0 := hid hB0
  rw [← hB0, ← hB1]
  have hb0 : B0 < B1 := by omega
  clear hB1 hB0
  by_cases hCE : CE = 0
  · have f0 : (CE != 0) = false := by simp [hCE]
    have x2 := M2.out hCE
    replace HSI := hid (HSI.out hCE)
    have X2 := hid x2
    clear M1 M2 x2
    subst hCE
    have hmk : ∀ W, (Instr.makeSlice 38 (.int .i64 (N : Int)) (.int .i64 (N : Int))).run Try.prog W = .ok (.slice (some ⟨W.heap.size, 0, none⟩) N N) (W.alloc (.cells (madeCells #[.int .i64 0] N) 3)) := fun W => by
      have := run_make_row' (P := Try.prog) 38 3 (.int .i64 0) 8 Try.underlying38 Try.infoInt rfl .i64 .i64 N (by omega) (by omega) W
      simpa using this
    go_wp2_with (first | (go_at_call 19; refine HCK.out.mono ?_; rintro e w2 ⟨rfl, hb2'⟩; have p1 := HC1.out w2 hb2'; have p3a := fun X => HC3.out (w2.alloc X) (hb2'.alloc hb2'.size X); have HB2 := hid hb2'; clear hb2' HCK c0 c1 c3))
    clear hmk
    have hZ2 := HB2.out.size
    obtain ⟨B, hB⟩ : ∃ B, B = w2.heap.size := ⟨_, rfl⟩
    have hst : (w2.alloc (.cells (madeCells #[.int .i64 0] N) 3)).ownsRow B 3 1 (.slice (some ⟨B, 0, none⟩) N N) N (ints (cntL l N 0)) := by
      have := own_lit w2 (B := B) 3 (madeCells #[.int .i64 0] N) (n := N) (size := 1) (by omega) (by simp [madeCells]) (by unfold maxLen; omega)
      rw [toList_madeCells_one, ← hB] at this
      simpa [ints, cntL] using this
    have hsb : Below B w2 (w2.alloc (.cells (madeCells #[.int .i64 0] N) 3)) := (Below.refl _ _).alloc (by omega) _
    rw [← hB] at hZ2 ⊢
    have HST := hid hst; have HSB := hid hsb; have HBb := hid hB
    clear p1 p3a hst hsb hB
    go_loopw [23] (fun kv wr => ∃ k : Nat, k ≤ n ∧ kv = .int .i64 k ∧ Hid (wr.ownsRow B 3 1 (.slice (some ⟨B, 0, none⟩) N N) N (ints (cntL l N k))) ∧ Hid (Below B w2 wr)) (fun kv _ => n - (intOf kv).toNat)
    case atStart => exact ⟨0, by omega, rfl, HST, HSB⟩
    case round =>
      obtain ⟨k, hk, rfl, hO, hBl⟩ := hrel
      have hbw : Below w1.heap.size w1 wr := HB2.out.trans (hBl.out.mono hZ2)
      have q3 := HC3.out wr hbw
      have hzB : B < wr.heap.size := (hO.out.lt B rfl).2
      by_cases hkn : k < n
      · have hkl : k < l.length := by rw [← HNN.out]; exact hkn
        obtain ⟨b, o, rfl, hbB, hc⟩ := HR.out.at (by omega)
        have hx := (hc k hkl).below (HW.out _ hbw) hbB
        have hsg := HSI.out k hkn
        have hcs : cntL l N (k + 1) = if kd l k = 1 then (cntL l N k).set (nd l k).sign.toNat ((cntL l N k).getD (nd l k).sign.toNat 0 + 1) else cntL l N k := rfl
        have hbd := cntL_bd l N k
        have hcl := cntL_len l N k
        rw [kd_at hkl, nd_at hkl] at hsg hcs
        generalize l[k]'hkl = nd0 at hx hsg hcs
        obtain ⟨kk, dp, sg, tn, mi, st, mn, mx⟩ := nd0
        have d1 := hx.kind; have d2 := hx.depth; have d3 := hx.sign; have d4 := hx.turn; have d5 := hx.mir; have d6 := hx.state; have d7 := hx.mn; have d8 := hx.mx
        simp only [] at d1 d2 d3 d4 d5 d6 d7 d8 hsg hcs
        have g0 : (k : Int) < (n : Int) := by omega
        have HNW := hid fun (X : Obj) => hBl.out.alloc (by omega) X
        have HKP := hid fun (X : Obj) => own_keep hO.out ((Below.refl wr.heap.size wr).alloc (Nat.le_refl _) X)
        clear hx hc
        by_cases h1 : kk = 1
        · have f1 : (kk == 1) = true := by simp [h1]
          obtain ⟨s, hs, hsl⟩ := hsg h1
          subst hs
          rw [← HNS.out] at hsl
          rw [if_pos h1, Int.toNat_natCast] at hcs
          have hsl2 : (s : Int) < (N : Int) := by omega
          have hcell := hO.out.cellAt s (by omega)
          rw [ints_get (by rw [hcl]; exact hsl)] at hcell
          have hb3 := hbd s
          generalize (cntL l N k).getD s 0 = x at hcs hcell hb3
          have hb4 := hb3.1; have hb5 : x ≤ 1000000 := by omega
          have pc := fun (X : Obj) => cell_old (o := X) hcell
          have zc := hO.out.frozenAt s
          have zz := fun (X : Obj) => free_old (o := X) hzB (hO.out.frozenAt s)
          have hset := fun (X : Obj) => own_keep (hO.out.stored s (.int .i64 (x + 1))).1 ((Below.refl _ _).alloc (Nat.le_refl _) X)
          have hset0 := (hO.out.stored s (.int .i64 (x + 1))).1
          have he : (ints (cntL l N k)).set s (.int .i64 (x + 1)) = ints (cntL l N (k + 1)) := by rw [hcs]; unfold ints; rw [List.map_set]
          rw [he] at hset0
          simp only [he] at hset
          have HSE := hid hset; have HS0 := hid hset0
          have HNE := hid fun (X : Obj) => (hBl.out.setCell (p := ⟨B, s, none⟩) (Nat.le_refl _) (.int .i64 (x + 1))).alloc (by have := hBl.out.size; simp [World.setCell]; omega) X
          have HN0 := hid (hBl.out.setCell (p := ⟨B, s, none⟩) (Nat.le_refl _) (.int .i64 (x + 1)))
          clear hsg hcs hset hset0 he hbd hcl hb3 h1 hO
          go_wp2_with fail
          go_roundw
          case rel => exact ⟨k + 1, by omega, by go_num, hid (HSE.out _), hid (HNE.out _)⟩
          case measure => simp [intOf]; omega
        · have f1 : (kk == 1) = false := by simp [h1]
          rw [if_neg h1] at hcs
          have HCS := hid hcs; have HO := hid hO.out; have HBL := hid hBl.out
          clear hsg hcs h1 hbd hcl hO
          go_wp2_with fail
          go_roundw
          case rel => exact ⟨k + 1, by omega, by go_num, by rw [HCS.out]; exact hid (HKP.out _), hid (HNW.out _)⟩
          case measure => simp [intOf]; omega
      · obtain rfl : n = k := by omega
        have g0 : decide (n < n) = false := by simp
        have hcl := cntL_len l N n
        have HX : Hid (L = cntL l N n) := by rw [X2.out, HNN.out, HNS.out]; exact hid rfl
        have HLL : Hid (L.length = N) := by rw [HX.out]; exact hid hcl
        have HO := hid hO.out; have HBW := hid hbw
        clear hO hbw hcl
        go_wp2_with fail
        go_ret2
        exact ⟨_, rfl, by rw [HLL.out, HX.out]; exact own_base HO.out (by have := HBb.out; have := (HW.out _ HB2.out).size; omega), HW.out _ HBW.out⟩
  · have f0 : (CE != 0) = true := by simp [hCE]
    have x2 := M1.out hCE
    have X2 := hid x2
    clear x2
    clear M1 M2 hCE
    go_wp2_with (first | (go_at_call 19; refine HCK.out.mono ?_; rintro e w2 ⟨rfl, hb2'⟩; have HB2 := hid hb2'; clear hb2' HCK c0 c1 c3))
    go_ret2
    exact ⟨.slice none 0 0, rfl, by rw [X2.out]; exact World.ownsRow_nil _ _ _ _, HW.out _ HB2.out⟩
end Go.Proofs.Ytddbnggficlcfaa

/- ostraconref02.Tally. -/
namespace Go.Proofs.Ytddbnggficlcfaa
open Go.RowKit Go.Shelf
set_option maxRecDepth 100000 in
set_option maxHeartbeats 8000000 in
theorem refTally_any (P : Int) (ss : List Sg) (l : List Nd) (hN : ss.length ≤ 1000000) (hv : ∀ s ∈ ss, s.vals.length ≤ 1000000) (hn : l.length ≤ 1000000) (A A2 : Option Addr) (c c2 : Nat) (w : World) (rs : Sgs w w.heap.size A ss) (rn : Nds w w.heap.size A2 l) :
    Calls Try.prog 51 #[.agg #[.int .i64 P, .slice A ss.length c], .agg #[.slice A2 l.length c2]] w (IntsPost (chkE P ss l) (tlyL P ss l) w) := by
  obtain ⟨w1, hw1⟩ : ∃ w1, w1 = (w.alloc (.cells #[.int .i64 P, .slice A ss.length c] 24)).alloc (.cells #[.slice A2 l.length c2] 27) := ⟨_, rfl⟩
  have hb1 : Below w.heap.size w w1 := by rw [hw1]; exact ((Below.refl _ _).alloc (Nat.le_refl _) _).alloc (by simp) _
  have hz1 : w1.heap.size = w.heap.size + 2 := by rw [hw1]; simp
  have c0 : w1.cell? ⟨w.heap.size, 0, none⟩ = some (.int .i64 P) := by rw [hw1]; exact cell_old (cell_here rfl rfl)
  have c1 : w1.cell? ⟨w.heap.size, 1, none⟩ = some (.slice A ss.length c) := by rw [hw1]; exact cell_old (cell_here rfl rfl)
  have c3 : w1.cell? ⟨w.heap.size + 1, 0, none⟩ = some (.slice A2 l.length c2) := by rw [hw1]; exact cell_here (by simp) rfl
  have HCK := hid (refCheck_any P ss l hN hv hn A A2 c c2 w1 ((rs.below hb1).more (by omega)) ((rn.below hb1).more (by omega)))
  have HSI := hid fun (h : chkE P ss l = 0) (k : Nat) (hk : k < l.length) (hk1 : kd l k = 1) => (show ∃ s : Nat, (nd l k).sign = s ∧ s < ss.length from by
    rw [kd_at hk] at hk1
    have := sign_ok h hk hk1
    rw [nd_at hk]
    exact ⟨l[k].sign.toNat, by omega, by omega⟩)
  have m1 := tlyL_bad (P := P) (ss := ss) (l := l); have m2 := tlyL_ok (P := P) (ss := ss) (l := l)
  generalize tlyL P ss l = L at m1 m2 ⊢
  generalize chkE P ss l = CE at HCK m1 m2 HSI
  have M1 := hid m1; have M2 := hid m2
  clear m1 m2
  obtain ⟨N, hNN⟩ : ∃ N, N = ss.length := ⟨_, rfl⟩
  rw [← hNN] at HCK c1 hw1 hN ⊢
  obtain ⟨n, hnn⟩ : ∃ n, n = l.length := ⟨_, rfl⟩
  rw [← hnn] at HCK c3 hw1 hn HSI ⊢
  try rw [← hnn] at M2
  have HW1 := hid hw1; have HB1 := hid hb1; have HR := hid rn; have HRS := hid rs; have HNN := hid hnn; have HNS := hid hNN
  have hzz : w.heap.size + 1 < w1.heap.size := by omega
  have hzx : w.heap.size < w1.heap.size := by omega
  have HC1 := hid fun (wr : World) (h : Below w1.heap.size w1 wr) => (h.cell (p := ⟨w.heap.size, 1, none⟩) hzx).trans c1
  have HC3 := hid fun (wr : World) (h : Below w1.heap.size w1 wr) => (h.cell (p := ⟨w.heap.size + 1, 0, none⟩) hzz).trans c3
  have HW : Hid (∀ wr, Below w1.heap.size w1 wr → Below w.heap.size w wr) := fun wr h => hb1.trans (h.mono (by omega))
  clear hw1 hb1 hz1 rs rn hv hnn hNN
  go_enter Try.func51, Try.ntmps51
  go_upto_region 1 with (fail)
  rw [← HW1.out]
  clear HW1
  obtain ⟨B0, hB0⟩ : ∃ B0, B0 = w.heap.size := ⟨_, rfl⟩
  obtain ⟨B1, hB1⟩ : ∃ B1, B1 = B0 + 1 := ⟨_, rfl⟩
  rw [← hB0, ← hB1] at c3 HC3 hzz
  rw [← hB0] at c0 c1 HC1 hzx
  have HB0 := hid hB0
  rw [← hB0, ← hB1]
  have hb0 : B0 < B1 := by omega
  clear hB1 hB0
  by_cases hCE : CE = 0
  · have f0 : (CE != 0) = false := by simp [hCE]
    have x2 := M2.out hCE
    replace HSI := hid (HSI.out hCE)
    have X2 := hid x2
    clear M1 M2 x2
    subst hCE
    have hmk : ∀ W, (Instr.makeSlice 38 (.int .i64 (N : Int)) (.int .i64 (N : Int))).run Try.prog W = .ok (.slice (some ⟨W.heap.size, 0, none⟩) N N) (W.alloc (.cells (madeCells #[.int .i64 0] N) 3)) := fun W => by
      have := run_make_row' (P := Try.prog) 38 3 (.int .i64 0) 8 Try.underlying38 Try.infoInt rfl .i64 .i64 N (by omega) (by omega) W
      simpa using this
    go_wp2_with (first | (go_at_call 20; refine HCK.out.mono ?_; rintro e w2 ⟨rfl, hb2'⟩; have p1 := HC1.out w2 hb2'; have p3a := fun X => HC3.out (w2.alloc X) (hb2'.alloc hb2'.size X); have HB2 := hid hb2'; clear hb2' HCK c0 c1 c3))
    clear hmk
    have hZ2 := HB2.out.size
    obtain ⟨B, hB⟩ : ∃ B, B = w2.heap.size := ⟨_, rfl⟩
    have hst : (w2.alloc (.cells (madeCells #[.int .i64 0] N) 3)).ownsRow B 3 1 (.slice (some ⟨B, 0, none⟩) N N) N (ints (cntL l N 0)) := by
      have := own_lit w2 (B := B) 3 (madeCells #[.int .i64 0] N) (n := N) (size := 1) (by omega) (by simp [madeCells]) (by unfold maxLen; omega)
      rw [toList_madeCells_one, ← hB] at this
      simpa [ints, cntL] using this
    have hsb : Below B w2 (w2.alloc (.cells (madeCells #[.int .i64 0] N) 3)) := (Below.refl _ _).alloc (by omega) _
    rw [← hB] at hZ2 ⊢
    have HST := hid hst; have HSB := hid hsb; have HBb := hid hB
    clear p1 p3a hst hsb hB
    go_loopw [8] (fun kv wr => ∃ k : Nat, k ≤ n ∧ kv = .int .i64 k ∧ Hid (wr.ownsRow B 3 1 (.slice (some ⟨B, 0, none⟩) N N) N (ints (cntL l N k))) ∧ Hid (Below B w2 wr)) (fun kv _ => n - (intOf kv).toNat)
    case atStart => exact ⟨0, by omega, rfl, HST, HSB⟩
    case round =>
      obtain ⟨k, hk, rfl, hO, hBl⟩ := hrel
      have hbw : Below w1.heap.size w1 wr := HB2.out.trans (hBl.out.mono hZ2)
      have q3 := HC3.out wr hbw
      have hzB : B < wr.heap.size := (hO.out.lt B rfl).2
      by_cases hkn : k < n
      · have hkl : k < l.length := by rw [← HNN.out]; exact hkn
        obtain ⟨b, o, rfl, hbB, hc⟩ := HR.out.at (by omega)
        have hx := (hc k hkl).below (HW.out _ hbw) hbB
        have hsg := HSI.out k hkn
        have hcs : cntL l N (k + 1) = if kd l k = 1 then (cntL l N k).set (nd l k).sign.toNat ((cntL l N k).getD (nd l k).sign.toNat 0 + 1) else cntL l N k := rfl
        have hbd := cntL_bd l N k
        have hcl := cntL_len l N k
        rw [kd_at hkl, nd_at hkl] at hsg hcs
        generalize l[k]'hkl = nd0 at hx hsg hcs
        obtain ⟨kk, dp, sg, tn, mi, st, mn, mx⟩ := nd0
        have d1 := hx.kind; have d2 := hx.depth; have d3 := hx.sign; have d4 := hx.turn; have d5 := hx.mir; have d6 := hx.state; have d7 := hx.mn; have d8 := hx.mx
        simp only [] at d1 d2 d3 d4 d5 d6 d7 d8 hsg hcs
        have g0 : (k : Int) < (n : Int) := by omega
        have HNW := hid fun (X : Obj) => hBl.out.alloc (by omega) X
        have HKP := hid fun (X : Obj) => own_keep hO.out ((Below.refl wr.heap.size wr).alloc (Nat.le_refl _) X)
        clear hx hc
        by_cases h1 : kk = 1
        · have f1 : (kk == 1) = true := by simp [h1]
          obtain ⟨s, hs, hsl⟩ := hsg h1
          subst hs
          rw [← HNS.out] at hsl
          rw [if_pos h1, Int.toNat_natCast] at hcs
          have hsl2 : (s : Int) < (N : Int) := by omega
          have hcell := hO.out.cellAt s (by omega)
          rw [ints_get (by rw [hcl]; exact hsl)] at hcell
          have hb3 := hbd s
          generalize (cntL l N k).getD s 0 = x at hcs hcell hb3
          have hb4 := hb3.1; have hb5 : x ≤ 1000000 := by omega
          have pc := fun (X : Obj) => cell_old (o := X) hcell
          have zc := hO.out.frozenAt s
          have zz := fun (X : Obj) => free_old (o := X) hzB (hO.out.frozenAt s)
          have hset := fun (X : Obj) => own_keep (hO.out.stored s (.int .i64 (x + 1))).1 ((Below.refl _ _).alloc (Nat.le_refl _) X)
          have hset0 := (hO.out.stored s (.int .i64 (x + 1))).1
          have he : (ints (cntL l N k)).set s (.int .i64 (x + 1)) = ints (cntL l N (k + 1)) := by rw [hcs]; unfold ints; rw [List.map_set]
          rw [he] at hset0
          simp only [he] at hset
          have HSE := hid hset; have HS0 := hid hset0
          have HNE := hid fun (X : Obj) => (hBl.out.setCell (p := ⟨B, s, none⟩) (Nat.le_refl _) (.int .i64 (x + 1))).alloc (by have := hBl.out.size; simp [World.setCell]; omega) X
          have HN0 := hid (hBl.out.setCell (p := ⟨B, s, none⟩) (Nat.le_refl _) (.int .i64 (x + 1)))
          clear hsg hcs hset hset0 he hbd hcl hb3 h1 hO
          go_wp2_with fail
          go_roundw
          case rel => exact ⟨k + 1, by omega, by go_num, HS0, HN0⟩
          case measure => simp [intOf]; omega
        · have f1 : (kk == 1) = false := by simp [h1]
          rw [if_neg h1] at hcs
          have HCS := hid hcs; have HO := hid hO.out; have HBL := hid hBl.out
          clear hsg hcs h1 hbd hcl hO
          go_wp2_with fail
          go_roundw
          case rel => exact ⟨k + 1, by omega, by go_num, by rw [HCS.out]; exact HO, HBL⟩
          case measure => simp [intOf]; omega
      · obtain rfl : n = k := by omega
        have g0 : decide (n < n) = false := by simp
        have hcl := cntL_len l N n
        have HX : Hid (L = cntL l N n) := by rw [X2.out, HNN.out, HNS.out]; exact hid rfl
        have HLL : Hid (L.length = N) := by rw [HX.out]; exact hid hcl
        have HO := hid hO.out; have HBW := hid hbw
        clear hO hbw hcl
        go_wp2_with fail
        go_ret2
        exact ⟨_, rfl, by rw [HLL.out, HX.out]; exact own_base HO.out (by have := HBb.out; have := (HW.out _ HB2.out).size; omega), HW.out _ HBW.out⟩
  · have f0 : (CE != 0) = true := by simp [hCE]
    have x2 := M1.out hCE
    have X2 := hid x2
    clear x2
    clear M1 M2 hCE
    go_wp2_with (first | (go_at_call 20; refine HCK.out.mono ?_; rintro e w2 ⟨rfl, hb2'⟩; have HB2 := hid hb2'; clear hb2' HCK c0 c1 c3))
    go_ret2
    exact ⟨.slice none 0 0, rfl, by rw [X2.out]; exact World.ownsRow_nil _ _ _ _, HW.out _ HB2.out⟩
end Go.Proofs.Ytddbnggficlcfaa

/- WALK: the law GroupsTallies. -/
namespace Go.Proofs.Ytddbnggficlcfaa
open Go.RowKit
theorem tlyL_core {P : Int} {ss ss' : List Sg} (h : ss'.map Sg.core = ss.map Sg.core) (l : List Nd) : tlyL P ss' l = tlyL P ss l := by unfold tlyL; rw [chkE_core h, core_len h]
theorem flaL_core {P : Int} {ss ss' : List Sg} (h : ss'.map Sg.core = ss.map Sg.core) (l : List Nd) : flaL P ss' l = flaL P ss l := by unfold flaL; rw [chkE_core h]
theorem flaL_len {P : Int} {ss : List Sg} {l : List Nd} : (flaL P ss l).length ≤ l.length + l.length := by
  unfold flaL
  split
  · rename_i h
    rw [fltL_eq (good_of (chkE_zero h).2.2.1).wf (good_of (chkE_zero h).2.2.1).deps (fun i hi => ((chkE_zero h).2.2.2 i hi).2.1)]
    have h1 := fltK_len l (kidsOf l (-1)).length
    have h2 := dn_le' (l := l) (j := (kidsOf l (-1)).length)
    have h3 := leaves_len2 l
    have h4 := kidsOf_len (l := l) (node := -1) (by omega)
    omega
  · simp
set_option maxRecDepth 100000 in
set_option maxHeartbeats 8000000 in
theorem tallies_law (P : Int) (ss : List Sg) (l : List Nd) (A A2 : Option Addr) (c c2 : Nat) (hl : ss.length ≤ 9223372036854775807) (hv : ∀ s ∈ ss, s.vals.length ≤ 9223372036854775807) (w : World) (rs : Sgs w w.heap.size A ss) (rn : Nds w w.heap.size A2 l) :
    Calls Try.prog 12 #[.agg #[.int .i64 P, .slice A ss.length c, .slice A2 l.length c2]] w fun e w' => e = .returned (.bool true) ∧ Below w.heap.size w w' := by
  obtain ⟨r1, hr1⟩ : ∃ x : Bool, (x = true ↔ BigP ss l) := by
    by_cases h : BigP ss l
    · exact ⟨true, iff_of_true rfl h⟩
    · exact ⟨false, iff_of_false (by simp) h⟩
  have hsm := fun h : ¬ BigP ss l => small_of h
  obtain ⟨w1, hw1⟩ : ∃ w1, w1 = w.alloc (.cells #[.int .i64 P, .slice A ss.length c, .slice A2 l.length c2] 29) := ⟨_, rfl⟩
  have hb1 : Below w.heap.size w w1 := by rw [hw1]; exact (Below.refl _ _).alloc (Nat.le_refl _) _
  have hz1 : w.heap.size < w1.heap.size := by rw [hw1]; simp
  have c0 : w1.cell? ⟨w.heap.size, 0, none⟩ = some (.int .i64 P) := by rw [hw1]; exact cell_here rfl rfl
  have c1 : w1.cell? ⟨w.heap.size, 1, none⟩ = some (.slice A ss.length c) := by rw [hw1]; exact cell_here rfl rfl
  have c3 : w1.cell? ⟨w.heap.size, 2, none⟩ = some (.slice A2 l.length c2) := by rw [hw1]; exact cell_here rfl rfl
  have HBG := hid ((bigP_any P ss l A A2 c c2 hl hv w1 ((rs.below hb1).more hb1.size)).mono fun e w' hb => hb.get hr1)
  have hF1 := fun (s1 : ss.length ≤ 30) (s2 : l.length ≤ 210) (s3 : ∀ s ∈ ss, s.vals.length ≤ 20) (ss' : List Sg) (A3 A4 : Option Addr) (c3 c4 : Nat) (W : World) (hp : Copies ss l ss' A3 A4 c3 c4 W) (h : Below w1.heap.size w1 W) =>
    (by have := tallyE_any P ss' l (by rw [hp.len]; omega) (hp.vals s3) (by omega) A3 A4 c3 c4 W hp.sg hp.nd; rw [chkE_core hp.core l, tlyL_core hp.core l] at this; exact this.mono fun e w' hx => ints_out hx : Calls Try.prog 50 #[.agg #[.int .i64 P, .slice A3 ss'.length c3], .agg #[.slice A4 l.length c4]] W fun e w' => ∃ (A' : Option Addr) (c' : Nat), e = .returned (.tuple #[.slice A' (tlyL P ss l).length c', .int .i64 (chkE P ss l)]) ∧ Rd w' w'.heap.size A' (tlyL P ss l) ∧ Below W.heap.size W w')
  have hF2 := fun (s1 : ss.length ≤ 30) (s2 : l.length ≤ 210) (s3 : ∀ s ∈ ss, s.vals.length ≤ 20) (ss' : List Sg) (A3 A4 : Option Addr) (c3 c4 : Nat) (W : World) (hp : Copies ss l ss' A3 A4 c3 c4 W) (h : Below w1.heap.size w1 W) =>
    (by have := flatE_any P ss' l (by rw [hp.len]; omega) (hp.vals s3) (by omega) A3 A4 c3 c4 W hp.sg hp.nd; rw [chkE_core hp.core l, flaL_core hp.core l] at this; exact this.mono fun e w' hx => txt_own hx : Calls Try.prog 52 #[.agg #[.int .i64 P, .slice A3 ss'.length c3], .agg #[.slice A4 l.length c4]] W fun e w' => ∃ (A' : Option Addr) (c' : Nat), e = .returned (.tuple #[.agg #[.slice A' (flaL P ss l).length c'], .int .i64 (chkE P ss l)]) ∧ w'.ownsRow W.heap.size 78 8 (.slice A' (flaL P ss l).length c') (flaL P ss l).length (flatN (flaL P ss l)) ∧ Below W.heap.size W w')
  have hG1 := fun (s1 : ss.length ≤ 30) (s2 : l.length ≤ 210) (s3 : ∀ s ∈ ss, s.vals.length ≤ 20) (W : World) (h : Below w1.heap.size w1 W) =>
    (refTally_any P ss l (by omega) (fun s hs => by have := s3 s hs; omega) (by omega) A A2 c c2 W ((rs.below (hb1.trans (h.mono hb1.size))).more (Nat.le_trans hb1.size h.size)) ((rn.below (hb1.trans (h.mono hb1.size))).more (Nat.le_trans hb1.size h.size))).mono fun e w' hx => ints_out hx
  have hG2 := fun (s1 : ss.length ≤ 30) (s2 : l.length ≤ 210) (s3 : ∀ s ∈ ss, s.vals.length ≤ 20) (W : World) (h : Below w1.heap.size w1 W) =>
    (refFlat_any P ss l (by omega) (fun s hs => by have := s3 s hs; omega) (by omega) A A2 c c2 W ((rs.below (hb1.trans (h.mono hb1.size))).more (Nat.le_trans hb1.size h.size)) ((rn.below (hb1.trans (h.mono hb1.size))).more (Nat.le_trans hb1.size h.size))).mono fun e w' hx => txt_out hx
  have hk1 := tlyL_len (P := P) (ss := ss) (l := l)
  have hk2 := flaL_len (P := P) (ss := ss) (l := l)
  generalize chkE P ss l = E1 at hF1 hG1 hF2 hG2
  generalize tlyL P ss l = L1 at hF1 hG1 hk1
  generalize flaL P ss l = L2 at hF2 hG2 hk2
  have hrs := rs; have hrn := rn
  obtain ⟨N, hN⟩ : ∃ N, N = ss.length := ⟨_, rfl⟩
  obtain ⟨n, hn⟩ : ∃ n, n = l.length := ⟨_, rfl⟩
  rw [← hN] at c1 hw1 HBG ⊢
  rw [← hn] at c3 hw1 HBG ⊢
  have HW1 := hid hw1; have HB1 := hid hb1; have HSM := hid hsm; have HR1 := hid hr1; have HNN := hid hN; have HNl := hid hn; have HRS := hid hrs; have HRN := hid hrn
  have HF1 := hid hF1; have HF2 := hid hF2; have HG1 := hid hG1; have HG2 := hid hG2
  have HK1 := hid hk1; have HK2 := hid hk2
  clear hF1 hF2 hG1 hG2 hk1 hk2
  have HW : Hid (∀ wr, Below w1.heap.size w1 wr → Below w.heap.size w wr) := fun wr h => hb1.trans (h.mono (by omega))
  have HWK := hid fun (W : World) => works_any W
  have HC0 := hid fun (wr : World) (h : Below w1.heap.size w1 wr) => (h.cell (p := ⟨w.heap.size, 0, none⟩) hz1).trans c0
  have HC1 := hid fun (wr : World) (h : Below w1.heap.size w1 wr) => (h.cell (p := ⟨w.heap.size, 1, none⟩) hz1).trans c1
  have HC3 := hid fun (wr : World) (h : Below w1.heap.size w1 wr) => (h.cell (p := ⟨w.heap.size, 2, none⟩) hz1).trans c3
  clear hw1 rs rn hsm hr1 hN hn hv hl hb1 hrs hrn
  go_enter Try.func12, Try.ntmps12
  go_upto_region 1 with (fail)
  rw [← HW1.out]
  clear HW1
  obtain ⟨B0, hB0⟩ : ∃ B0, B0 = w.heap.size := ⟨_, rfl⟩
  rw [← hB0] at c0 c1 c3 hz1 HC0 HC1 HC3 ⊢
  clear hB0
  cases r1 with
  | true =>
    go_wp2_with (first | (go_at_call 15; refine HBG.out.mono ?_; rintro e w2 ⟨rfl, hb2⟩; have HB2 := hid hb2; clear hb2 c0 c1 c3) | (go_at_call 16; refine (HWK.out _).mono ?_; rintro e w3 ⟨rfl, hb3⟩; have HB3 := hid (bnext HB2.out hb3); clear hb3))
    go_ret
    exact ⟨rfl, HW.out _ HB3.out⟩
  | false =>
    obtain ⟨s1, s2, s3⟩ := HSM.out (fun h => by have := HR1.out.2 h; cases this)
    have HLI := hid fun (W : World) (h : Below w1.heap.size w1 W) => list_at (P := P) (c := c) (V := .slice A2 n c2) s1 s3 (HW.out _ (Below.refl _ _)) HRS.out W h
    have HTX := hid fun (W : World) (h : Below w1.heap.size w1 W) => text_at (P := P) (A := A) (N := N) (c := c) (c2 := c2) s2 (HW.out _ (Below.refl _ _)) HRN.out W h
    rw [← HNN.out] at HLI
    rw [← HNl.out] at HTX
    replace HF1 := hid (HF1.out s1 s2 s3); replace HF2 := hid (HF2.out s1 s2 s3); replace HG1 := hid (HG1.out s1 s2 s3); replace HG2 := hid (HG2.out s1 s2 s3)
    rw [← HNl.out] at HF1 HF2 HG1 HG2
    rw [← HNN.out] at HG1 HG2
    have hk1 := HK1.out; have hk2 := HK2.out
    obtain ⟨n1, hn1⟩ : ∃ n1, n1 = L1.length := ⟨_, rfl⟩
    obtain ⟨n2, hn2⟩ : ∃ n2, n2 = L2.length := ⟨_, rfl⟩
    rw [← hn1] at HF1 HG1 hk1
    rw [← hn2] at HF2 HG2 hk2
    have HN1 := hid hn1; have HN2 := hid hn2
    have hs1 : n1 ≤ 1000000 := by omega
    have hs2 : n2 ≤ 1000000 := by omega
    clear hk1 hk2 hn1 hn2
    go_upto_region 3 with (first | (go_at_call 15; refine HBG.out.mono ?_; rintro e w2 ⟨rfl, hb2⟩; have HB2 := hid hb2; clear hb2 c0 c1 c3))
    have q0 := HC0.out w2 HB2.out; have q1 := HC1.out w2 HB2.out; have q3 := HC3.out w2 HB2.out
    go_region_held3 (fun w' => w'.cell? ⟨B0, 0, none⟩ = some (.int .i64 P) ∧ w'.cell? ⟨B0, 1, none⟩ = some (.slice A N c) ∧ w'.cell? ⟨B0, 2, none⟩ = some (.slice A2 n c2)) (first | exact ⟨q0, q1, q3⟩ | exact ⟨HC0.out _ HB30.out, HC1.out _ HB30.out, HC3.out _ HB30.out⟩ | exact ⟨HC0.out _ HB31.out, HC1.out _ HB31.out, HC3.out _ HB31.out⟩ | exact ⟨HC0.out _ HB32.out, HC1.out _ HB32.out, HC3.out _ HB32.out⟩ | exact ⟨cell_old (HC0.out _ HB32.out), cell_old (HC1.out _ HB32.out), cell_old (HC3.out _ HB32.out)⟩ | fail) (first | (go_at_call 17; refine (HLI.out _ (by first | exact HB2.out.drew | exact HB2.out)).mono ?_; rintro e w30 ⟨A30, c30, ss30, rfl, hl30, hb30⟩; have HL30 := hid hl30; have HB30 := hid (bnext (by first | exact HB2.out.drew | exact HB2.out) hb30); clear hl30 hb30) | (go_at_call 18; refine (HTX.out _ HB30.out).mono ?_; rintro e w31 ⟨A31, c31, rfl, ho31, hb31⟩; have HP31 := hid (Copies.mk' (c4 := c31) HL30.out hb31 (by rw [← HNl.out]; exact ho31)); have HB31 := hid (bnext HB30.out hb31); clear ho31 hb31) | (go_at_call 50; refine (HF1.out _ _ _ _ _ _ HP31.out HB31.out).mono ?_; rintro e w32 ⟨A32, c32, rfl, hr32, hb32⟩; have HR32 := hid hr32; have HB32 := hid (bnext HB31.out hb32); clear hr32; clear hb32))
    clear q0 q1 q3
    have q0 := HC0.out w32 HB32.out; have q1 := HC1.out w32 HB32.out; have q3 := HC3.out w32 HB32.out
    go_upto_region 5 with (first | (go_at_call 51; refine (HG1.out _ HB32.out).mono ?_; rintro e w4 ⟨A4, c4, rfl, hr4, hb4⟩; have HR4 := hid hr4; have HB4 := hid (bnext HB32.out hb4); replace HR32 := hid (rdn HR32.out hb4); clear hr4 hb4 q0 q1 q3))
    go_cut [7, 8] (fun s3 s4 wx => ∃ (b : Nat) (A' : Option Addr) (c' : Nat), s3 = .pointer (some ⟨b, 0, none⟩) ∧ s4 = .int .i64 E1 ∧ Hid (Bx wx b (.slice A' n2 c')) ∧ Hid (Nds wx wx.heap.size A' L2) ∧ Hid (Below w4.heap.size w4 wx))
    case first =>
      have q0 := HC0.out w4 HB4.out; have q1 := HC1.out w4 HB4.out; have q3 := HC3.out w4 HB4.out
      have hsb : w1.heap.size ≤ w4.heap.size := HB4.out.size
      go_region_held3 (fun w' => w'.cell? ⟨B0, 0, none⟩ = some (.int .i64 P) ∧ w'.cell? ⟨B0, 1, none⟩ = some (.slice A N c) ∧ w'.cell? ⟨B0, 2, none⟩ = some (.slice A2 n c2)) (first | exact ⟨q0, q1, q3⟩ | exact ⟨HC0.out _ (bnext HB4.out (by first | exact HX52.out | exact bal HX52.out _ | exact HX51.out | exact bal HX51.out _ | exact HX50.out | exact bal HX50.out _ | exact (Below.refl _ _).drew | exact bal (Below.refl _ _).drew _ | exact (bal (Below.refl _ _) _).drew | exact Below.refl _ _ | exact bal (Below.refl _ _) _ | exact bst HX52.out HX51.out.size _ | exact bst HX52.out HX50.out.size _ | exact bst HX52.out HX52.out.size _ | exact bst HX52.out (Nat.le_refl _) _)), HC1.out _ (bnext HB4.out (by first | exact HX52.out | exact bal HX52.out _ | exact HX51.out | exact bal HX51.out _ | exact HX50.out | exact bal HX50.out _ | exact (Below.refl _ _).drew | exact bal (Below.refl _ _).drew _ | exact (bal (Below.refl _ _) _).drew | exact Below.refl _ _ | exact bal (Below.refl _ _) _ | exact bst HX52.out HX51.out.size _ | exact bst HX52.out HX50.out.size _ | exact bst HX52.out HX52.out.size _ | exact bst HX52.out (Nat.le_refl _) _)), HC3.out _ (bnext HB4.out (by first | exact HX52.out | exact bal HX52.out _ | exact HX51.out | exact bal HX51.out _ | exact HX50.out | exact bal HX50.out _ | exact (Below.refl _ _).drew | exact bal (Below.refl _ _).drew _ | exact (bal (Below.refl _ _) _).drew | exact Below.refl _ _ | exact bal (Below.refl _ _) _ | exact bst HX52.out HX51.out.size _ | exact bst HX52.out HX50.out.size _ | exact bst HX52.out HX52.out.size _ | exact bst HX52.out (Nat.le_refl _) _))⟩ | fail) (first | (go_at_call 17; refine (HLI.out _ (bnext HB4.out (by first | exact HX52.out | exact bal HX52.out _ | exact HX51.out | exact bal HX51.out _ | exact HX50.out | exact bal HX50.out _ | exact (Below.refl _ _).drew | exact bal (Below.refl _ _).drew _ | exact (bal (Below.refl _ _) _).drew | exact Below.refl _ _ | exact bal (Below.refl _ _) _ | exact bst HX52.out HX51.out.size _ | exact bst HX52.out HX50.out.size _ | exact bst HX52.out HX52.out.size _ | exact bst HX52.out (Nat.le_refl _) _))).mono ?_; rintro e w50 ⟨A50, c50, ss50, rfl, hl50, hb50⟩; have HL50 := hid hl50; have HX50 := hid (show Below w4.heap.size w4 w50 from bnext (by first | exact HX52.out | exact bal HX52.out _ | exact HX51.out | exact bal HX51.out _ | exact HX50.out | exact bal HX50.out _ | exact (Below.refl _ _).drew | exact bal (Below.refl _ _).drew _ | exact (bal (Below.refl _ _) _).drew | exact Below.refl _ _ | exact bal (Below.refl _ _) _ | exact bst HX52.out HX51.out.size _ | exact bst HX52.out HX50.out.size _ | exact bst HX52.out HX52.out.size _ | exact bst HX52.out (Nat.le_refl _) _) hb50); (first | (have bf := hid (Bxf.kept bf.out hb50); skip) | (have bf := hid (Bxf.kept (Bxf.new (w := w4) (b := w4.heap.size) rfl) hb50)) | (have bf := hid (Bxf.kept (Bxf.new (w := w4.drew) (b := w4.heap.size) rfl) hb50)) | skip); clear hl50 hb50) | (go_at_call 18; refine (HTX.out _ (bnext HB4.out (by first | exact HX52.out | exact bal HX52.out _ | exact HX51.out | exact bal HX51.out _ | exact HX50.out | exact bal HX50.out _ | exact (Below.refl _ _).drew | exact bal (Below.refl _ _).drew _ | exact (bal (Below.refl _ _) _).drew | exact Below.refl _ _ | exact bal (Below.refl _ _) _ | exact bst HX52.out HX51.out.size _ | exact bst HX52.out HX50.out.size _ | exact bst HX52.out HX52.out.size _ | exact bst HX52.out (Nat.le_refl _) _))).mono ?_; rintro e w51 ⟨A51, c51, rfl, ho51, hb51⟩; have HP51 := hid (Copies.mk' (c4 := c51) HL50.out (bnext (by first | exact Below.refl _ _ | exact bal (Below.refl _ _) _) hb51) (by rw [← HNl.out]; exact ho51)); have HX51 := hid (show Below w4.heap.size w4 w51 from bnext (by first | exact HX52.out | exact bal HX52.out _ | exact HX51.out | exact bal HX51.out _ | exact HX50.out | exact bal HX50.out _ | exact (Below.refl _ _).drew | exact bal (Below.refl _ _).drew _ | exact (bal (Below.refl _ _) _).drew | exact Below.refl _ _ | exact bal (Below.refl _ _) _ | exact bst HX52.out HX51.out.size _ | exact bst HX52.out HX50.out.size _ | exact bst HX52.out HX52.out.size _ | exact bst HX52.out (Nat.le_refl _) _) hb51); (first | (have bf := hid (Bxf.kept bf.out hb51); skip) | (have bf := hid (Bxf.kept (Bxf.new (w := w50) (b := w50.heap.size) rfl) hb51)) | (have bf := hid (Bxf.kept (Bxf.new (w := w50.drew) (b := w50.heap.size) rfl) hb51)) | skip); clear ho51 hb51) | (go_at_call 52; refine (HF2.out _ _ _ _ _ _ (HP51.out.below (by first | exact Below.refl _ _ | exact bal (Below.refl _ _) _)) (bnext HB4.out (by first | exact HX52.out | exact bal HX52.out _ | exact HX51.out | exact bal HX51.out _ | exact HX50.out | exact bal HX50.out _ | exact (Below.refl _ _).drew | exact bal (Below.refl _ _).drew _ | exact (bal (Below.refl _ _) _).drew | exact Below.refl _ _ | exact bal (Below.refl _ _) _ | exact bst HX52.out HX51.out.size _ | exact bst HX52.out HX50.out.size _ | exact bst HX52.out HX52.out.size _ | exact bst HX52.out (Nat.le_refl _) _))).mono ?_; rintro e w52 ⟨A52, c52, rfl, hr52, hb52⟩; have HR52 := hid (show Nds w52 w52.heap.size A52 L2 from Reads.of_own (by rw [← HN2.out]; exact hr52)); (first | (have bo := hid (Bxf.own bf.out hb52 hr52 HN2.out); skip) | (have bo := hid (Bxf.own (Bxf.new (w := w51) (b := w51.heap.size) rfl) hb52 hr52 HN2.out)) | skip); have HX52 := hid (show Below w4.heap.size w4 w52 from bnext (by first | exact HX52.out | exact bal HX52.out _ | exact HX51.out | exact bal HX51.out _ | exact HX50.out | exact bal HX50.out _ | exact (Below.refl _ _).drew | exact bal (Below.refl _ _).drew _ | exact (bal (Below.refl _ _) _).drew | exact Below.refl _ _ | exact bal (Below.refl _ _) _ | exact bst HX52.out HX51.out.size _ | exact bst HX52.out HX50.out.size _ | exact bst HX52.out HX52.out.size _ | exact bst HX52.out (Nat.le_refl _) _) hb52); (first | (have bf := hid (Bxf.kept bf.out hb52); skip) | (have bf := hid (Bxf.kept (Bxf.new (w := w51) (b := w51.heap.size) rfl) hb52)) | (have bf := hid (Bxf.kept (Bxf.new (w := w51.drew) (b := w51.heap.size) rfl) hb52)) | skip); (first | (have bfc := bf.out.cell; have bff := bf.out.free) | skip); clear hr52 hb52))
      all_goals
        go_wp2_with fail
        go_meet
        first
          | exact ⟨_, _, _, rfl, rfl, hid bo.out.1, hid bo.out.2, hid (by first | exact HX52.out | exact bal HX52.out _ | exact HX51.out | exact bal HX51.out _ | exact HX50.out | exact bal HX50.out _ | exact (Below.refl _ _).drew | exact bal (Below.refl _ _).drew _ | exact (bal (Below.refl _ _) _).drew | exact Below.refl _ _ | exact bal (Below.refl _ _) _ | exact bst HX52.out HX51.out.size _ | exact bst HX52.out HX50.out.size _ | exact bst HX52.out HX52.out.size _ | exact bst HX52.out (Nat.le_refl _) _)⟩
          | exact ⟨_, _, _, rfl, rfl, hid (Bx.new rfl), hid (rdn HR52.out (bal (Below.refl _ _) _)), hid (bal HX52.out _)⟩
    obtain ⟨b5, A5, c5, rfl, rfl, BX5, HR5, HX5⟩ := hcut
    obtain ⟨w5, rfl⟩ : ∃ W, W = wc := ⟨_, rfl⟩
    have HB5 := hid (bnext HB4.out HX5.out)
    replace HR32 := hid (rdn HR32.out HX5.out)
    replace HR4 := hid (rdn HR4.out HX5.out)
    clear HX5
    have q0 := HC0.out w5 HB5.out; have q1 := HC1.out w5 HB5.out; have q3 := HC3.out w5 HB5.out
    go_upto_region 7 with (first | (go_at_call 53; refine (HG2.out _ HB5.out).mono ?_; rintro e w6 ⟨A6, c6, rfl, hr6, hb6⟩; have HR6 := hid hr6; have HB6 := hid (bnext HB5.out hb6); replace HR32 := hid (rdn HR32.out hb6); replace HR4 := hid (rdn HR4.out hb6); replace HR5 := hid (rdn HR5.out hb6); replace BX5 := hid (bxn BX5.out hb6); clear hr6 hb6 q0 q1 q3))
    obtain ⟨w63, hw63⟩ : ∃ W, W = w6.alloc (.cells #[.slice A6 n2 c6] 27) := ⟨_, rfl⟩
    obtain ⟨b63, hb63⟩ : ∃ b, b = w6.heap.size := ⟨_, rfl⟩
    have hA : Below w6.heap.size w6 w63 := by rw [hw63]; exact (Below.refl _ _).alloc (Nat.le_refl _) _
    have BX63 := hid (show Bx w63 b63 (.slice A6 n2 c6) from by rw [hw63]; exact Bx.new hb63)
    rw [← hw63, ← hb63]
    have HB63 := hid (bnext HB6.out hA); replace HR32 := hid (rdn HR32.out hA); replace HR4 := hid (rdn HR4.out hA); replace HR5 := hid (rdn HR5.out hA); replace BX5 := hid (bxn BX5.out hA); replace HR6 := hid (rdn HR6.out hA); clear hA hw63 hb63
    have hwk := HWK.out
    have HS1 := hid (ints_same n1 HN1.out hs1 c32 c4 HR32.out HR4.out)
    go_wp2_with (first | (go_at_call 27; refine HS1.out.mono ?_; rintro e w9 ⟨rfl, hb9⟩; have HB9 := hid (bnext HB63.out hb9); have HS2 := hid (txt_same n2 HN2.out hs2 c5 c6 (rdn HR5.out hb9) (rdn HR6.out hb9)); have x3 := (bxn BX5.out hb9).cell; have x4 := (bxn BX63.out hb9).cell; clear hb9 HS1) | (go_at_call 22; refine HS2.out.mono ?_; rintro e w10 ⟨rfl, hb10⟩; have HB10 := hid (bnext HB9.out hb10); clear hb10 HS2 x3 x4) | (go_at_call 16; refine (HWK.out _).mono ?_; rintro e w13 ⟨rfl, hb13⟩; have HB13 := hid (bnext HB10.out hb13); clear hb13))
    go_ret
    exact ⟨rfl, HW.out _ HB13.out⟩
end Go.Proofs.Ytddbnggficlcfaa
