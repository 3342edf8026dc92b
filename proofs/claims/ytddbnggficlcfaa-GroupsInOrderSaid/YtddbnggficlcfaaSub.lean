/- ostraconref02.Below: a node and all below it. -/
import Derived.Test.YtddbnggficlcfaaTextL
import Derived.IntWalk
import Derived.Test.YtddbnggficlcfaaChk1
namespace Go.Proofs.Ytddbnggficlcfaa
open Go.RowKit Go.Shelf
set_option maxRecDepth 100000 in
set_option maxHeartbeats 8000000 in
theorem belowT_any (l : List Nd) (i : Nat) (hi : i < l.length) (hl : l.length ≤ 1000000) (hdp : ∀ k, k < l.length → 0 ≤ dep l k ∧ dep l k ≤ 4) (A : Option Addr) (c : Nat) (w : World) (r : Nds w w.heap.size A l) :
    Calls Try.prog 73 #[.agg #[.slice A l.length c], .int .i64 i] w fun e w' => ∃ v, e = .returned (.agg #[v]) ∧ w'.ownsRow w.heap.size 78 8 v (partOf l i).length (flatN (partOf l i)) ∧ Below w.heap.size w w' := by
  obtain ⟨w1, hw1⟩ : ∃ w1, w1 = (w.alloc (.cells #[.slice A l.length c] 27)).alloc (.cells #[.slice none 0 0] 27) := ⟨_, rfl⟩
  have hb1 : Below w.heap.size w w1 := by rw [hw1]; exact ((Below.refl _ _).alloc (Nat.le_refl _) _).alloc (by simp) _
  have hz1 : w1.heap.size = w.heap.size + 2 := by rw [hw1]; simp
  have c3 : w1.cell? ⟨w.heap.size, 0, none⟩ = some (.slice A l.length c) := by rw [hw1]; exact cell_old (cell_here rfl rfl)
  have c4 : w1.cell? ⟨w.heap.size + 1, 0, none⟩ = some (.slice none 0 0) := by rw [hw1]; exact cell_here (by simp) rfl
  have z4 : w1.frozen? ⟨w.heap.size + 1, 0, none⟩ = false := by rw [hw1]; exact free_here (by simp)
  have hzx : w.heap.size < w1.heap.size := by omega
  have hzy : w.heap.size + 1 < w1.heap.size := by omega
  obtain ⟨b, o, rfl, hbB, hcell⟩ := r.at (by omega)
  have h1 := endOf_gt l i; have h2 := endOf_le hi
  have hin := fun j => endOf_in (l := l) (i := i) (j := j)
  have hat := endOf_at (l := l) (i := i)
  obtain ⟨m, hm⟩ : ∃ m, m = endOf l i := ⟨_, rfl⟩
  have hpo : partOf l i = prtL l i (m - i) := by unfold partOf; rw [hm]
  rw [hpo]
  rw [← hm] at h1 h2 hin hat
  have hdi := hdp i hi
  have hdc := (hcell i hi).depth
  rw [← dep_at hi] at hdc
  have hsn := fun j (h1 : i ≤ j) (h2 : j < l.length) => (show prtL l i (j + 1 - i) = prtL l i (j - i) ++ [subN (dep l i) (l[j]'h2)] from by
    have e1 : j + 1 - i = j - i + 1 := by omega
    have e2 : i + (j - i) = j := by omega
    rw [e1, prtL_s (by omega)]
    simp only [e2])
  have hlen := fun j (h1 : i ≤ j) (h2 : j ≤ l.length) => prtL_len (l := l) (i := i) (k := j - i) (by omega)
  obtain ⟨d, hd⟩ : ∃ d, d = dep l i := ⟨_, rfl⟩
  rw [← hd] at hdi hdc hat hsn
  simp only [← hd] at hin
  obtain ⟨n, hn⟩ : ∃ n, n = l.length := ⟨_, rfl⟩
  rw [← hn] at hw1 c3 hl hi h2 hat hlen ⊢
  have HW1 := hid hw1; have HB1 := hid hb1; have HIN := hid hin; have HAT := hid hat; have HSN := hid hsn; have HLEN := hid hlen; have HCELL := hid hcell; have HN := hid hn; have HDP := hid hdp
  have HDC := hid fun (W : World) (h : Below w.heap.size w W) => (h.cell (p := ⟨b, o + i * 8 + 1, none⟩) hbB).trans hdc
  have HC3 := hid fun (wr : World) (h : Below w1.heap.size w1 wr) => (h.cell (p := ⟨w.heap.size, 0, none⟩) hzx).trans c3
  have HC4 := hid fun (wr : World) (h : Below w1.heap.size w1 wr) => (h.cell (p := ⟨w.heap.size + 1, 0, none⟩) hzy).trans c4
  have HZ4 := hid fun (wr : World) (h : Below w1.heap.size w1 wr) => (h.frozen (p := ⟨w.heap.size + 1, 0, none⟩) hzy).trans z4
  have g1 : (i : Int) < (n : Int) := by omega
  have hd1 := hdi.1; have hd2 := hdi.2
  clear hw1 hb1 r hcell hdi hdc hpo hd hn hdp hm hin hat hsn hlen c3 c4 z4
  go_enter Try.func73, Try.ntmps73
  go_upto_region 1 with (fail)
  rw [← HW1.out]
  clear HW1
  obtain ⟨B0, hB0⟩ : ∃ B0, B0 = w.heap.size := ⟨_, rfl⟩
  obtain ⟨B1, hB1⟩ : ∃ B1, B1 = B0 + 1 := ⟨_, rfl⟩
  rw [← hB0, ← hB1] at HC4 HZ4 hzy
  rw [← hB0] at HC3 hzx
  have HB0 := hid hB0
  rw [← hB0, ← hB1]
  have hb01 : B0 < B1 := by omega
  have hlt : w.heap.size ≤ B1 := by omega
  have hlw : w.heap.size ≤ w1.heap.size := HB1.out.size
  clear hB0 hB1 hz1
  go_wp2_with fail
  obtain ⟨B, hB⟩ : ∃ B, B = w1.heap.size := ⟨_, rfl⟩
  have hOS := OutT.start hB
  rw [← hB]
  have HOS := hid hOS
  have HBb := hid hB
  clear hB hOS
  go_loopw [6] (fun kv wr => ∃ (j : Nat) (v : Value), i ≤ j ∧ j ≤ m ∧ kv = .int .i64 j ∧ Hid (OutT B w1 (prtL l i (j - i)) v wr)) (fun kv _ => m - (intOf kv).toNat)
  case atStart => exact ⟨i, .slice none 0 0, by omega, by omega, rfl, by simp [prtL]; exact HOS⟩
  case round =>
    obtain ⟨j, v, hij, hjm, rfl, hO⟩ := hrel
    have hbw : Below w1.heap.size w1 wr := by rw [← HBb.out]; exact hO.out.bel
    obtain ⟨A5, c5, rfl⟩ := own_slice hO.out.own
    have hlj := HLEN.out j hij (by omega)
    have q3' := HC3.out wr hbw
    have pd := HDC.out wr (HB1.out.trans (hbw.mono hlw))
    by_cases hjm2 : j < m
    · have hjl : j < l.length := by rw [← HN.out]; omega
      have hnx := fun (W : World) (h : Below w1.heap.size w1 W) => (HCELL.out j hjl).below (HB1.out.trans (h.mono hlw)) hbB
      have hst := HSN.out j hij hjl
      have hjd := HDP.out j hjl
      have hjin := fun h => (HIN.out j h hjm2).2
      rw [dep_at hjl] at hjd hjin
      generalize l[j]'hjl = nd0 at hnx hst hjd hjin
      obtain ⟨kk, dp, sg, tn, mi, st, mn, mx⟩ := nd0
      have d2 := (hnx wr hbw).depth
      simp only [] at d2 hst hjd hjin
      have hj1 := hjd.1; have hj2 := hjd.2
      have g0 : (j : Int) < (n : Int) := by omega
      have hcs : ((j : Int) == (i : Int)) = true ∨ (((j : Int) == (i : Int)) = false ∧ d < dp) := by
        by_cases hji : j = i
        · exact .inl (by simp [hji])
        · exact .inr ⟨by simp; omega, hjin (by omega)⟩
      have HNX := hid hnx; have HST := hid hst; have HO := hid hO.out; have HLJ := hid hlj; have HBW := hid hbw
      clear hnx hst hjd hjin hO hlj hbw
      rcases hcs with e1 | ⟨e1, e2⟩
      all_goals
        go_wp2_with fail
        go_quiet (fail)
        generalize hwd : wr.drewN _ = wd
        have hbd : Below wr.heap.size wr wd := by rw [← hwd]; exact below_drewN (Below.refl _ _) _
        have HBD := hid hbd
        have HSZ := hid (show wr.heap.size = wd.heap.size from by rw [← hwd]; simp)
        clear hwd hbd d2 q3' pd
        have hbw := bnx HBW.out HBD.out
        have q3 := fun (X : Obj) => HC3.out (wd.alloc X) (hbw.alloc hbw.size X)
        have q3' := HC3.out wd hbw
        have pd := fun (X : Obj) => HDC.out (wd.alloc X) (HB1.out.trans ((hbw.alloc hbw.size X).mono hlw))
        have hx := HNX.out wd hbw
        have hO := HO.out.below HBD.out
        have hoc := hO.cell
        have pm0 := hoc.1; have zm0 := hoc.2.1; have hBw := hoc.2.2
        have d1 := hx.kind; have d2 := hx.depth; have d3 := hx.sign; have d4 := hx.turn; have d5 := hx.mir; have d6 := hx.state; have d7 := hx.mn; have d8 := hx.mx
        simp only [] at d1 d2 d3 d4 d5 d6 d7 d8
        have hO' := hO
        rw [HLJ.out] at hO' pm0
        have HOD := hid hO'
        clear hoc hx hO hO'
        go_upto_region 6 with (fail)
        go_cut [7] (fun s7 wx => s7 = .pointer (some ⟨wd.heap.size, 0, none⟩) ∧ Hid (NdAt wx wd.heap.size 0 ⟨kk, dp - d, sg, tn, mi, st, mn, mx⟩) ∧ Hid (Below wd.heap.size wd wx))
        case first =>
          go_region_law (fail)
          all_goals
            go_wp2_with fail
            go_meet
            have hwr : IntKind.i64.wrap (dp - d) = dp - d := IntWalk.i64_in _ (by omega)
            rw [hwr]
            exact ⟨rfl, hid ⟨cell_here rfl rfl, cell_here rfl rfl, cell_here rfl rfl, cell_here rfl rfl, cell_here rfl rfl, cell_here rfl rfl, cell_here rfl rfl, cell_here rfl rfl⟩, hid ((Below.refl _ _).alloc (Nat.le_refl _) _).drew⟩
        obtain ⟨rfl, hN7, hB7⟩ := hcut
        clear d1 d2 d3 d4 d5 d6 d7 d8 pm0 zm0 q3 q3' pd e1
        have hNN := hN7.out
        have d1 := hNN.kind; have d2 := hNN.depth; have d3 := hNN.sign; have d4 := hNN.turn; have d5 := hNN.mir; have d6 := hNN.state; have d7 := hNN.mn; have d8 := hNN.mx
        simp only [Nat.zero_add] at d1 d2 d3 d4 d5 d6 d7 d8
        have hOC := HOD.out.below hB7.out
        have hoc := hOC.cell
        have pm0 := hoc.1; have hBw2 := hoc.2.2
        have hOw := hOC.own
        rw [HLJ.out] at hOw
        have HOW := hid fun (X : Obj) => own_keep hOw ((Below.refl wc.heap.size wc).alloc (Nat.le_refl _) X)
        have HNX2 := hid fun (X : Obj) (ys : List Value) (nd1 : Nd) (hy : ys = nd1.cells) (v4 : Value) (w4 : World) (ho4 : w4.ownsRow (B + 1) 78 8 v4 (j - i + 1) (flatN (prtL l i (j - i)) ++ ys)) (hg4 : (wc.alloc X).grownBy w4 (Value.slice A5 (j - i) c5).ownBlock) => OutT.step (n := j - i) hOC ((Below.refl wc.heap.size wc).alloc (Nat.le_refl _) X) HLJ.out.symm hy ho4 hg4
        have hBA := hid (show B + 1 ≤ wc.heap.size from hBw2)
        have hji : j - i ≤ 1000000 := by omega
        obtain ⟨nj, hnj⟩ : ∃ nj, nj = j - i := ⟨_, rfl⟩
        rw [← hnj] at pm0 hji HOW HNX2
        have HNJ := hid hnj
        clear hNN hoc hOC hOw hnj
        go_wp2_with (first | (at_builtin; refine app_elem rfl (.tmp 53) (.tmp 55) Try.underlying25 Try.infoNode rfl (by decide) (by decide) rfl (B + 1) _ nj (flatN (prtL l i nj)) rfl (HOW.out _) ⟨wc.heap.size, 0, none⟩ [.int .i64 kk, .int .i64 (dp - d), .int .i64 sg, .int .i64 tn, .bool mi, .int .i64 st, .int .i64 mn, .int .i64 mx] rfl rfl (cell_news_at _ _ _ (by simp)) (fun u hu => flatN_one (l := [⟨kk, dp - d, sg, tn, mi, st, mn, mx⟩]) (by rw [flatN_sing]; exact hu)) (by omega) (by have := hBA.out; simp; omega) ?_; intro v4 w4 ho4 hg4; obtain ⟨p9, z9, ho9⟩ := HNX2.out _ _ ⟨kk, dp - d, sg, tn, mi, st, mn, mx⟩ rfl v4 w4 ho4 hg4; obtain ⟨A9, c9, rfl⟩ := own_slice ho4; have HO9 := hid ho9; clear ho4 hg4 ho9))
        go_roundw
        case rel => exact ⟨j + 1, _, by omega, by omega, by go_num, by rw [HST.out, ← HNJ.out]; exact HO9⟩
        case measure => simp [intOf]; omega
    · obtain rfl : m = j := by omega
      have p4 := fun q => HC4.out (wr.drewN q) (below_drewN hbw q); have z4 := fun q => HZ4.out (wr.drewN q) (below_drewN hbw q)
      have p4' := HC4.out wr hbw; have z4' := HZ4.out wr hbw
      have hoc := hO.out.cell
      have pm0 := hoc.1
      have pm1 := fun q => ((hO.out.below (below_drewN (Below.refl _ _) q)).cell).1
      have hmi : ((m : Int) == (i : Int)) = false := by simp; omega
      have hOw := hO.out.own
      rw [hlj] at hOw pm0
      simp only [hlj] at pm1
      have HO2 := hid fun q => own_keep hOw (below_drewN (Below.refl wr.heap.size wr) q)
      have HBW := hid fun q => below_drewN hbw q
      have hat := fun h => HAT.out h
      clear hO hoc hbw hOw
      obtain ⟨nm, hnm⟩ : ∃ nm, nm = m - i := ⟨_, rfl⟩
      rw [← hnm] at pm0 HO2 hlj
      simp only [← hnm] at pm1
      have HLL := hid hlj
      have HNM := hid hnm
      clear hlj hnm
      by_cases hmn : m < n
      · have hml : m < l.length := by rw [← HN.out]; exact hmn
        have d2 := ((HCELL.out m hml).below (HB1.out.trans ((by have := HBW.out 0; exact this : Below w1.heap.size w1 (wr.drewN 0)).mono hlw)) hbB).depth
        rw [← dep_at hml] at d2
        have d2' : wr.cell? ⟨b, o + m * 8 + 1, none⟩ = some (.int .i64 (dep l m)) := d2
        have hle := hat hmn
        have g0 : (m : Int) < (n : Int) := by omega
        generalize dep l m = x at d2' hle
        have e3 : decide (d < x) = false := decide_eq_false (by omega)
        clear d2 hat hle
        go_wp2_with fail
        go_quiet (fail)
        go_wp2_with fail
        have hq := fun q => World.cell?_setCell_same (wr.drewN q) _ (.slice A5 nm c5) (p4 q)
        have hb0 := HB0.out
        have hBb := HBb.out
        have hne : (Value.slice A5 nm c5).ownBlock ≠ some B1 := fun he => by have := ((HO2.out 0).lt _ he).1; omega
        have h10 := fun q => own_base (ownsRow_setCell_other (HO2.out q) (a := (⟨B1, 0, none⟩ : Addr)) hne (.slice A5 nm c5)) (show w.heap.size ≤ B + 1 by omega)
        have h11 := fun q => (HB1.out.trans ((HBW.out q).mono hlw)).setCell (p := (⟨B1, 0, none⟩ : Addr)) hlt (.slice A5 nm c5)
        exact bodyPost_ret (v := .agg #[.slice A5 nm c5]) (by simp [results, Try.results73, go_sem, hq]) rfl ⟨.slice A5 nm c5, rfl, by rw [← HNM.out, HLL.out]; exact h10 _, h11 _⟩
      · obtain rfl : m = n := by omega
        have g0 : decide (m < m) = false := by simp
        clear hat
        go_wp2_with fail
        go_quiet (fail)
        go_wp2_with fail
        have hq := fun q => World.cell?_setCell_same (wr.drewN q) _ (.slice A5 nm c5) (p4 q)
        have hb0 := HB0.out
        have hBb := HBb.out
        have hne : (Value.slice A5 nm c5).ownBlock ≠ some B1 := fun he => by have := ((HO2.out 0).lt _ he).1; omega
        have h10 := fun q => own_base (ownsRow_setCell_other (HO2.out q) (a := (⟨B1, 0, none⟩ : Addr)) hne (.slice A5 nm c5)) (show w.heap.size ≤ B + 1 by omega)
        have h11 := fun q => (HB1.out.trans ((HBW.out q).mono hlw)).setCell (p := (⟨B1, 0, none⟩ : Addr)) hlt (.slice A5 nm c5)
        exact bodyPost_ret (v := .agg #[.slice A5 nm c5]) (by simp [results, Try.results73, go_sem, hq]) rfl ⟨.slice A5 nm c5, rfl, by rw [← HNM.out, HLL.out]; exact h10 _, h11 _⟩
end Go.Proofs.Ytddbnggficlcfaa

/- groups.Sub, ostraconref02.Sub. -/
namespace Go.Proofs.Ytddbnggficlcfaa
open Go.RowKit Go.Shelf
open Classical in
noncomputable def subE (P : Int) (ss : List Sg) (l : List Nd) (node : Int) : Int := if chkE P ss l ≠ 0 then chkE P ss l else if node < 0 ∨ (l.length : Int) ≤ node then 1 else 0
open Classical in
noncomputable def subL (P : Int) (ss : List Sg) (l : List Nd) (node : Int) : List Nd := if subE P ss l node = 0 then partOf l node.toNat else []
theorem subL_bad {P : Int} {ss : List Sg} {l : List Nd} {node : Int} (h : chkE P ss l ≠ 0) : subL P ss l node = [] ∧ subE P ss l node = chkE P ss l := by
  have h1 : subE P ss l node = chkE P ss l := if_pos h
  exact ⟨by unfold subL; rw [h1, if_neg h], h1⟩
theorem subL_ok {P : Int} {ss : List Sg} {l : List Nd} {node : Int} (h : chkE P ss l = 0) : (node < 0 ∨ (l.length : Int) ≤ node → subL P ss l node = [] ∧ subE P ss l node = 1) ∧ (¬ (node < 0 ∨ (l.length : Int) ≤ node) → subL P ss l node = partOf l node.toNat ∧ subE P ss l node = 0) := by
  constructor
  · intro h2
    have h1 : subE P ss l node = 1 := by unfold subE; rw [if_neg (by simp [h]), if_pos h2]
    exact ⟨by unfold subL; rw [h1, if_neg (by decide)], h1⟩
  · intro h2
    have h1 : subE P ss l node = 0 := by unfold subE; rw [if_neg (by simp [h]), if_neg h2]
    exact ⟨by unfold subL; rw [h1, if_pos rfl], h1⟩
theorem subL_len {P : Int} {ss : List Sg} {l : List Nd} {node : Int} : (subL P ss l node).length ≤ l.length := by
  by_cases h : chkE P ss l = 0
  · by_cases h2 : node < 0 ∨ (l.length : Int) ≤ node
    · rw [((subL_ok h).1 h2).1]; simp
    · rw [((subL_ok h).2 h2).1, partOf_len (by omega)]
      have := endOf_le (l := l) (i := node.toNat) (by omega)
      omega
  · rw [(subL_bad h).1]; simp
set_option maxRecDepth 100000 in
set_option maxHeartbeats 8000000 in
theorem subE_any (P : Int) (ss : List Sg) (l : List Nd) (node : Int) (hN : ss.length ≤ 1000000) (hv : ∀ s ∈ ss, s.vals.length ≤ 1000000 ∧ s.vals.length ≤ s.vc) (hn : l.length ≤ 1000000) (A A2 : Option Addr) (c c2 : Nat) (w : World) (rs : Sgs w w.heap.size A ss) (rn : Nds w w.heap.size A2 l) (hroom : l.length ≤ c2) :
    Calls Try.prog 43 #[.agg #[.int .i64 P, .slice A ss.length c], .agg #[.slice A2 l.length c2], .int .i64 node] w (TxtPost (subE P ss l node) (subL P ss l node) w) := by
  obtain ⟨w1, hw1⟩ : ∃ w1, w1 = ((w.alloc (.cells #[.int .i64 P, .slice A ss.length c] 24)).alloc (.cells #[.slice A2 l.length c2] 27)).alloc (.cells #[.slice none 0 0] 27) := ⟨_, rfl⟩
  have hb1 : Below w.heap.size w w1 := by rw [hw1]; exact (((Below.refl _ _).alloc (Nat.le_refl _) _).alloc (by simp) _).alloc (by simp; omega) _
  have hz1 : w1.heap.size = w.heap.size + 3 := by rw [hw1]; simp
  have c0 : w1.cell? ⟨w.heap.size, 0, none⟩ = some (.int .i64 P) := by rw [hw1]; exact cell_old (cell_old (cell_here rfl rfl))
  have c1 : w1.cell? ⟨w.heap.size, 1, none⟩ = some (.slice A ss.length c) := by rw [hw1]; exact cell_old (cell_old (cell_here rfl rfl))
  have c3 : w1.cell? ⟨w.heap.size + 1, 0, none⟩ = some (.slice A2 l.length c2) := by rw [hw1]; exact cell_old (cell_here (by simp) rfl)
  have c4 : w1.cell? ⟨w.heap.size + 2, 0, none⟩ = some (.slice none 0 0) := by rw [hw1]; exact cell_here (by simp) rfl
  have z4 : w1.frozen? ⟨w.heap.size + 2, 0, none⟩ = false := by rw [hw1]; exact free_here (by simp)
  have HCK := hid (check_any P ss l hN hv hn A A2 c c2 w1 ((rs.below hb1).more (by omega)) ((rn.below hb1).more (by omega)))
  have HPA := hid fun (h : chkE P ss l = 0) (i : Nat) (hi : i < l.length) (W : World) (hb : Below w.heap.size w W) => part_any l i hi hn (good_of (chkE_zero h).2.2.1).deps A2 c2 hroom W ((rn.below hb).more hb.size)
  have m1 := subL_bad (P := P) (ss := ss) (l := l) (node := node); have m2 := subL_ok (P := P) (ss := ss) (l := l) (node := node)
  generalize subL P ss l node = L at m1 m2 ⊢
  generalize subE P ss l node = E at m1 m2 ⊢
  generalize chkE P ss l = CE at HCK m1 m2 HPA
  have M1 := hid m1; have M2 := hid m2
  clear m1 m2
  obtain ⟨N, hNN⟩ : ∃ N, N = ss.length := ⟨_, rfl⟩
  rw [← hNN] at HCK c1 hw1 hN ⊢
  obtain ⟨n, hnn⟩ : ∃ n, n = l.length := ⟨_, rfl⟩
  rw [← hnn] at HCK c3 hw1 hn HPA ⊢
  try rw [← hnn] at M2
  have HW1 := hid hw1; have HB1 := hid hb1; have HR := hid rn; have HRS := hid rs; have HNN := hid hnn; have HNS := hid hNN
  have hzz : w.heap.size + 1 < w1.heap.size := by omega
  have hzy : w.heap.size + 2 < w1.heap.size := by omega
  have hzx : w.heap.size < w1.heap.size := by omega
  have HC1 := hid fun (wr : World) (h : Below w1.heap.size w1 wr) => (h.cell (p := ⟨w.heap.size, 1, none⟩) hzx).trans c1
  have HC3 := hid fun (wr : World) (h : Below w1.heap.size w1 wr) => (h.cell (p := ⟨w.heap.size + 1, 0, none⟩) hzz).trans c3
  have HC4 := hid fun (wr : World) (h : Below w1.heap.size w1 wr) => (h.cell (p := ⟨w.heap.size + 2, 0, none⟩) hzy).trans c4
  have HZ4 := hid fun (wr : World) (h : Below w1.heap.size w1 wr) => (h.frozen (p := ⟨w.heap.size + 2, 0, none⟩) hzy).trans z4
  have HW : Hid (∀ wr, Below w1.heap.size w1 wr → Below w.heap.size w wr) := fun wr h => hb1.trans (h.mono (by omega))
  clear hw1 hb1 hz1 rs rn hv hnn hNN hroom
  go_enter Try.func43, Try.ntmps43
  go_upto_region 1 with (fail)
  simp only [Nat.add_assoc, Nat.reduceAdd]
  rw [← HW1.out]
  clear HW1
  obtain ⟨B0, hB0⟩ : ∃ B0, B0 = w.heap.size := ⟨_, rfl⟩
  obtain ⟨B1, hB1⟩ : ∃ B1, B1 = B0 + 1 := ⟨_, rfl⟩
  obtain ⟨B2, hB2⟩ : ∃ B2, B2 = B0 + 2 := ⟨_, rfl⟩
  rw [← hB0, ← hB1] at c3 HC3 hzz
  rw [← hB0, ← hB2] at c4 z4 HC4 HZ4 hzy
  rw [← hB0] at c0 c1 HC1 hzx
  have HB0 := hid hB0
  rw [← hB0, ← hB1, ← hB2]
  have hlt : w.heap.size ≤ B2 := by omega
  have hb0 : B0 < B1 := by omega
  have hb2 : B1 < B2 := by omega
  clear hB1 hB2 hB0
  by_cases hCE : CE = 0
  · have f0 : (CE != 0) = false := by simp [hCE]
    have x2 := M2.out hCE
    replace HPA := hid (HPA.out hCE)
    have X2 := hid x2
    clear M1 M2 x2
    subst hCE
    go_upto_region 4 with (first | (go_at_call 19; refine HCK.out.mono ?_; rintro e w2 ⟨rfl, hb2'⟩; have p3 := HC3.out w2 hb2'; have HB2 := hid hb2'; clear hb2' HCK c0 c1 c3 c4 z4))
    have p4 := HC4.out w2 HB2.out; have z4 := HZ4.out w2 HB2.out
    by_cases hno : node < 0 ∨ (n : Int) ≤ node
    · obtain ⟨rfl, rfl⟩ := X2.out.1 hno
      by_cases h0 : node < 0
      · have g0 : decide (node < 0) = true := decide_eq_true h0
        clear hno HPA X2
        go_wp2_with fail
        have hq := World.cell?_setCell_same _ _ (.slice none 0 0) p4
        exact bodyPost_ret (v := .tuple #[.agg #[.slice none 0 0], .int .i64 1]) (by simp [results, Try.results43, go_sem, hq]) rfl ⟨.slice none 0 0, rfl, World.ownsRow_nil _ _ _ _, (HW.out _ HB2.out).setCell hlt _⟩
      · have g0 : decide (node < 0) = false := decide_eq_false h0
        have g1 : decide ((n : Int) ≤ node) = true := decide_eq_true (by omega)
        clear hno HPA X2
        go_wp2_with fail
        have hq := World.cell?_setCell_same _ _ (.slice none 0 0) p4
        exact bodyPost_ret (v := .tuple #[.agg #[.slice none 0 0], .int .i64 1]) (by simp [results, Try.results43, go_sem, hq]) rfl ⟨.slice none 0 0, rfl, World.ownsRow_nil _ _ _ _, (HW.out _ HB2.out).setCell hlt _⟩
    · obtain ⟨xl, rfl⟩ := X2.out.2 hno
      obtain ⟨i, rfl⟩ : ∃ i : Nat, node = i := ⟨node.toNat, by omega⟩
      have g0 : decide ((i : Int) < 0) = false := decide_eq_false (by omega)
      have g1 : decide ((n : Int) ≤ (i : Int)) = false := decide_eq_false (by omega)
      have g2 : ¬ ((n : Int) ≤ (i : Int)) := by omega
      have HPB := hid (HPA.out i (by omega))
      obtain ⟨K, hK⟩ : ∃ K, K = (partOf l i).length := ⟨_, rfl⟩
      rw [← hK] at HPB
      have HKK := hid hK
      clear hK
      rw [Int.toNat_natCast] at xl
      have XL := hid xl
      clear hno HPA X2 xl
      go_wp2_with (first | (go_at_call 77; refine (HPB.out _ (HW.out _ HB2.out)).mono ?_; rintro e w5 ⟨v5, rfl, ho5, hb5⟩; obtain ⟨A5, c5, rfl⟩ := own_slice ho5; have HO5 := hid ho5; have HB5 := hid (HB2.out.trans (hb5.mono HB2.out.size)); have p5 := HC4.out w5 HB5.out; have z5 := HZ4.out w5 HB5.out; clear ho5 hb5 p4 z4))
      have hq := World.cell?_setCell_same _ _ (.slice A5 K c5) p5
      have hz2 := HB2.out.size
      exact bodyPost_ret (v := .tuple #[.agg #[.slice A5 K c5], .int .i64 0]) (by simp [results, Try.results43, go_sem, hq]) rfl ⟨.slice A5 K c5, rfl, by rw [XL.out, ← HKK.out]; have h9 := HO5.out; exact own_base (ownsRow_setCell_other h9 (a := (⟨B2, 0, none⟩ : Addr)) (fun he => by have := (h9.lt _ he).1; simp at this; omega) _) (HW.out _ HB2.out).size, (HW.out _ HB5.out).setCell hlt _⟩
  · have f0 : (CE != 0) = true := by simp [hCE]
    have x2 := (M1.out hCE).1
    obtain rfl := (M1.out hCE).2
    have X2 := hid x2
    clear x2
    clear M1 M2 hCE
    go_wp2_with (first | (go_at_call 19; refine HCK.out.mono ?_; rintro e w2 ⟨rfl, hb2'⟩; have p4 := HC4.out w2 hb2'; have q4 := HZ4.out w2 hb2'; have HB2 := hid hb2'; clear hb2' HCK c0 c1 c3 c4 z4))
    have hq := World.cell?_setCell_same _ _ (.slice none 0 0) p4
    exact bodyPost_ret (v := .tuple #[.agg #[.slice none 0 0], .int .i64 E]) (by simp [results, Try.results43, go_sem, hq]) rfl ⟨.slice none 0 0, rfl, by rw [X2.out]; exact World.ownsRow_nil _ _ _ _, (HW.out _ HB2.out).setCell hlt _⟩
set_option maxRecDepth 100000 in
set_option maxHeartbeats 8000000 in
theorem refSub_any (P : Int) (ss : List Sg) (l : List Nd) (node : Int) (hN : ss.length ≤ 1000000) (hv : ∀ s ∈ ss, s.vals.length ≤ 1000000) (hn : l.length ≤ 1000000) (A A2 : Option Addr) (c c2 : Nat) (w : World) (rs : Sgs w w.heap.size A ss) (rn : Nds w w.heap.size A2 l) :
    Calls Try.prog 44 #[.agg #[.int .i64 P, .slice A ss.length c], .agg #[.slice A2 l.length c2], .int .i64 node] w (TxtPost (subE P ss l node) (subL P ss l node) w) := by
  obtain ⟨w1, hw1⟩ : ∃ w1, w1 = ((w.alloc (.cells #[.int .i64 P, .slice A ss.length c] 24)).alloc (.cells #[.slice A2 l.length c2] 27)).alloc (.cells #[.slice none 0 0] 27) := ⟨_, rfl⟩
  have hb1 : Below w.heap.size w w1 := by rw [hw1]; exact (((Below.refl _ _).alloc (Nat.le_refl _) _).alloc (by simp) _).alloc (by simp; omega) _
  have hz1 : w1.heap.size = w.heap.size + 3 := by rw [hw1]; simp
  have c0 : w1.cell? ⟨w.heap.size, 0, none⟩ = some (.int .i64 P) := by rw [hw1]; exact cell_old (cell_old (cell_here rfl rfl))
  have c1 : w1.cell? ⟨w.heap.size, 1, none⟩ = some (.slice A ss.length c) := by rw [hw1]; exact cell_old (cell_old (cell_here rfl rfl))
  have c3 : w1.cell? ⟨w.heap.size + 1, 0, none⟩ = some (.slice A2 l.length c2) := by rw [hw1]; exact cell_old (cell_here (by simp) rfl)
  have c4 : w1.cell? ⟨w.heap.size + 2, 0, none⟩ = some (.slice none 0 0) := by rw [hw1]; exact cell_here (by simp) rfl
  have z4 : w1.frozen? ⟨w.heap.size + 2, 0, none⟩ = false := by rw [hw1]; exact free_here (by simp)
  have HCK := hid (refCheck_any P ss l hN hv hn A A2 c c2 w1 ((rs.below hb1).more (by omega)) ((rn.below hb1).more (by omega)))
  have HPA := hid fun (h : chkE P ss l = 0) (i : Nat) (hi : i < l.length) (W : World) (hb : Below w.heap.size w W) => belowT_any l i hi hn (good_of (chkE_zero h).2.2.1).deps A2 c2 W ((rn.below hb).more hb.size)
  have m1 := subL_bad (P := P) (ss := ss) (l := l) (node := node); have m2 := subL_ok (P := P) (ss := ss) (l := l) (node := node)
  generalize subL P ss l node = L at m1 m2 ⊢
  generalize subE P ss l node = E at m1 m2 ⊢
  generalize chkE P ss l = CE at HCK m1 m2 HPA
  have M1 := hid m1; have M2 := hid m2
  clear m1 m2
  obtain ⟨N, hNN⟩ : ∃ N, N = ss.length := ⟨_, rfl⟩
  rw [← hNN] at HCK c1 hw1 hN ⊢
  obtain ⟨n, hnn⟩ : ∃ n, n = l.length := ⟨_, rfl⟩
  rw [← hnn] at HCK c3 hw1 hn HPA ⊢
  try rw [← hnn] at M2
  have HW1 := hid hw1; have HB1 := hid hb1; have HR := hid rn; have HRS := hid rs; have HNN := hid hnn; have HNS := hid hNN
  have hzz : w.heap.size + 1 < w1.heap.size := by omega
  have hzy : w.heap.size + 2 < w1.heap.size := by omega
  have hzx : w.heap.size < w1.heap.size := by omega
  have HC1 := hid fun (wr : World) (h : Below w1.heap.size w1 wr) => (h.cell (p := ⟨w.heap.size, 1, none⟩) hzx).trans c1
  have HC3 := hid fun (wr : World) (h : Below w1.heap.size w1 wr) => (h.cell (p := ⟨w.heap.size + 1, 0, none⟩) hzz).trans c3
  have HC4 := hid fun (wr : World) (h : Below w1.heap.size w1 wr) => (h.cell (p := ⟨w.heap.size + 2, 0, none⟩) hzy).trans c4
  have HZ4 := hid fun (wr : World) (h : Below w1.heap.size w1 wr) => (h.frozen (p := ⟨w.heap.size + 2, 0, none⟩) hzy).trans z4
  have HW : Hid (∀ wr, Below w1.heap.size w1 wr → Below w.heap.size w wr) := fun wr h => hb1.trans (h.mono (by omega))
  clear hw1 hb1 hz1 rs rn hv hnn hNN
  go_enter Try.func44, Try.ntmps44
  go_upto_region 1 with (fail)
  simp only [Nat.add_assoc, Nat.reduceAdd]
  rw [← HW1.out]
  clear HW1
  obtain ⟨B0, hB0⟩ : ∃ B0, B0 = w.heap.size := ⟨_, rfl⟩
  obtain ⟨B1, hB1⟩ : ∃ B1, B1 = B0 + 1 := ⟨_, rfl⟩
  obtain ⟨B2, hB2⟩ : ∃ B2, B2 = B0 + 2 := ⟨_, rfl⟩
  rw [← hB0, ← hB1] at c3 HC3 hzz
  rw [← hB0, ← hB2] at c4 z4 HC4 HZ4 hzy
  rw [← hB0] at c0 c1 HC1 hzx
  have HB0 := hid hB0
  rw [← hB0, ← hB1, ← hB2]
  have hlt : w.heap.size ≤ B2 := by omega
  have hb0 : B0 < B1 := by omega
  have hb2 : B1 < B2 := by omega
  clear hB1 hB2 hB0
  by_cases hCE : CE = 0
  · have f0 : (CE != 0) = false := by simp [hCE]
    have x2 := M2.out hCE
    replace HPA := hid (HPA.out hCE)
    have X2 := hid x2
    clear M1 M2 x2
    subst hCE
    go_upto_region 4 with (first | (go_at_call 20; refine HCK.out.mono ?_; rintro e w2 ⟨rfl, hb2'⟩; have p3 := HC3.out w2 hb2'; have HB2 := hid hb2'; clear hb2' HCK c0 c1 c3 c4 z4))
    have p4 := HC4.out w2 HB2.out; have z4 := HZ4.out w2 HB2.out
    by_cases hno : node < 0 ∨ (n : Int) ≤ node
    · obtain ⟨rfl, rfl⟩ := X2.out.1 hno
      by_cases h0 : node < 0
      · have g0 : decide (node < 0) = true := decide_eq_true h0
        clear hno HPA X2
        go_wp2_with fail
        have hq := World.cell?_setCell_same _ _ (.slice none 0 0) p4
        exact bodyPost_ret (v := .tuple #[.agg #[.slice none 0 0], .int .i64 1]) (by simp [results, Try.results44, go_sem, hq]) rfl ⟨.slice none 0 0, rfl, World.ownsRow_nil _ _ _ _, (HW.out _ HB2.out).setCell hlt _⟩
      · have g0 : decide (node < 0) = false := decide_eq_false h0
        have g1 : decide ((n : Int) ≤ node) = true := decide_eq_true (by omega)
        clear hno HPA X2
        go_wp2_with fail
        have hq := World.cell?_setCell_same _ _ (.slice none 0 0) p4
        exact bodyPost_ret (v := .tuple #[.agg #[.slice none 0 0], .int .i64 1]) (by simp [results, Try.results44, go_sem, hq]) rfl ⟨.slice none 0 0, rfl, World.ownsRow_nil _ _ _ _, (HW.out _ HB2.out).setCell hlt _⟩
    · obtain ⟨xl, rfl⟩ := X2.out.2 hno
      obtain ⟨i, rfl⟩ : ∃ i : Nat, node = i := ⟨node.toNat, by omega⟩
      have g0 : decide ((i : Int) < 0) = false := decide_eq_false (by omega)
      have g1 : decide ((n : Int) ≤ (i : Int)) = false := decide_eq_false (by omega)
      have g2 : ¬ ((n : Int) ≤ (i : Int)) := by omega
      have HPB := hid (HPA.out i (by omega))
      obtain ⟨K, hK⟩ : ∃ K, K = (partOf l i).length := ⟨_, rfl⟩
      rw [← hK] at HPB
      have HKK := hid hK
      clear hK
      rw [Int.toNat_natCast] at xl
      have XL := hid xl
      clear hno HPA X2 xl
      go_wp2_with (first | (go_at_call 73; refine (HPB.out _ (HW.out _ HB2.out)).mono ?_; rintro e w5 ⟨v5, rfl, ho5, hb5⟩; obtain ⟨A5, c5, rfl⟩ := own_slice ho5; have HO5 := hid ho5; have HB5 := hid (HB2.out.trans (hb5.mono HB2.out.size)); have p5 := HC4.out w5 HB5.out; have z5 := HZ4.out w5 HB5.out; clear ho5 hb5 p4 z4))
      have hq := World.cell?_setCell_same _ _ (.slice A5 K c5) p5
      have hz2 := HB2.out.size
      exact bodyPost_ret (v := .tuple #[.agg #[.slice A5 K c5], .int .i64 0]) (by simp [results, Try.results44, go_sem, hq]) rfl ⟨.slice A5 K c5, rfl, by rw [XL.out, ← HKK.out]; have h9 := HO5.out; exact own_base (ownsRow_setCell_other h9 (a := (⟨B2, 0, none⟩ : Addr)) (fun he => by have := (h9.lt _ he).1; simp at this; omega) _) (HW.out _ HB2.out).size, (HW.out _ HB5.out).setCell hlt _⟩
  · have f0 : (CE != 0) = true := by simp [hCE]
    have x2 := (M1.out hCE).1
    obtain rfl := (M1.out hCE).2
    have X2 := hid x2
    clear x2
    clear M1 M2 hCE
    go_wp2_with (first | (go_at_call 20; refine HCK.out.mono ?_; rintro e w2 ⟨rfl, hb2'⟩; have p4 := HC4.out w2 hb2'; have q4 := HZ4.out w2 hb2'; have HB2 := hid hb2'; clear hb2' HCK c0 c1 c3 c4 z4))
    have hq := World.cell?_setCell_same _ _ (.slice none 0 0) p4
    exact bodyPost_ret (v := .tuple #[.agg #[.slice none 0 0], .int .i64 E]) (by simp [results, Try.results44, go_sem, hq]) rfl ⟨.slice none 0 0, rfl, by rw [X2.out]; exact World.ownsRow_nil _ _ _ _, (HW.out _ HB2.out).setCell hlt _⟩
end Go.Proofs.Ytddbnggficlcfaa
