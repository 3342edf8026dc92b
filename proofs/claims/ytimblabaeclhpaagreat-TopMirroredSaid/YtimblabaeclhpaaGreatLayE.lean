/- WALK: a page: grid.rows, grid.Check. -/
import Derived.Test.YtimblabaeclhpaaGreatLayW
import Derived.Test.YtimblabaeclhpaaGreatTextL
import Derived.Test.YtimblabaeclhpaaGreatBoxesW
import Derived.Test.YtimblabaeclhpaaGreatStdL
namespace Go.Proofs.YtimblabaeclhpaaGreat
open Go.RowKit
set_option maxRecDepth 100000 in
set_option maxHeartbeats 1000000 in
theorem rows_any (d wd : Int) (w : World) :
    Calls Tryz.prog 34 #[.agg #[.int .i64 d, .int .i64 wd]] w fun e w' => e = .returned (.bool (decide (d ≤ 2))) ∧ Below w.heap.size w w' := by
  go_enter Tryz.func34, Tryz.ntmps34
  go_wp2_with fail
  go_ret
  exact ⟨rfl, (Below.refl _ _).alloc (Nat.le_refl _) _⟩
/-- The answer of grid.Check. -/
def pageE (d wd : Int) : Int := if (1 ≤ d ∧ d ≤ 4) ∧ 48 ≤ wd ∧ wd ≤ 4800 then 0 else 40
set_option maxRecDepth 100000 in
set_option maxHeartbeats 2000000 in
theorem pageCheck_any (d wd : Int) (w : World) :
    Calls Tryz.prog 33 #[.agg #[.int .i64 d, .int .i64 wd]] w fun e w' => e = .returned (.int .i64 (pageE d wd)) ∧ Below w.heap.size w w' := by
  by_cases h1 : d < 1
  · have HX : Hid (pageE d wd = 40) := hid (if_neg (by omega))
    have e1 : decide (d < 1) = true := decide_eq_true h1
    clear h1
    go_enter Tryz.func33, Tryz.ntmps33
    go_wp2_with fail
    go_ret
    exact ⟨by rw [HX.out]; rfl, (Below.refl _ _).alloc (Nat.le_refl _) _⟩
  · have e1 : decide (d < 1) = false := decide_eq_false h1
    by_cases h2 : 4 < d
    · have HX : Hid (pageE d wd = 40) := hid (if_neg (by omega))
      have e2 : decide (4 < d) = true := decide_eq_true h2
      clear h1 h2
      go_enter Tryz.func33, Tryz.ntmps33
      go_wp2_with fail
      go_ret
      exact ⟨by rw [HX.out]; rfl, (Below.refl _ _).alloc (Nat.le_refl _) _⟩
    · have e2 : decide (4 < d) = false := decide_eq_false h2
      by_cases h3 : wd < 48
      · have HX : Hid (pageE d wd = 40) := hid (if_neg (by omega))
        have e3 : decide (wd < 48) = true := decide_eq_true h3
        clear h1 h2 h3
        go_enter Tryz.func33, Tryz.ntmps33
        go_wp2_with fail
        go_ret
        exact ⟨by rw [HX.out]; rfl, (Below.refl _ _).alloc (Nat.le_refl _) _⟩
      · have e3 : decide (wd < 48) = false := decide_eq_false h3
        by_cases h4 : 4800 < wd
        · have HX : Hid (pageE d wd = 40) := hid (if_neg (by omega))
          have e4 : decide (4800 < wd) = true := decide_eq_true h4
          clear h1 h2 h3 h4
          go_enter Tryz.func33, Tryz.ntmps33
          go_wp2_with fail
          go_ret
          exact ⟨by rw [HX.out]; rfl, (Below.refl _ _).alloc (Nat.le_refl _) _⟩
        · have HX : Hid (pageE d wd = 0) := hid (if_pos (by omega))
          have e4 : decide (4800 < wd) = false := decide_eq_false h4
          clear h1 h2 h3 h4
          go_enter Tryz.func33, Tryz.ntmps33
          go_wp2_with fail
          go_ret
          exact ⟨by rw [HX.out]; rfl, (Below.refl _ _).alloc (Nat.le_refl _) _⟩
end Go.Proofs.YtimblabaeclhpaaGreat

/- groups.Plain. -/
namespace Go.Proofs.YtimblabaeclhpaaGreat
open Go.RowKit Go.Shelf
theorem plR_skip {l : List Nd} {k : Nat} (hd : dep l k ≠ 0) (h7 : kd l k = 7) : plR l (k + 1) = plR l k := if_pos ⟨hd, h7⟩
theorem plR_add {l : List Nd} {k : Nat} (h : ¬ (dep l k ≠ 0 ∧ kd l k = 7)) : plR l (k + 1) = plR l k ++ [lowN (inH l (k + 1)) (nd l k)] := if_neg h
set_option maxRecDepth 100000 in
set_option maxHeartbeats 8000000 in
theorem plainE_any (P : Int) (ss : List Sg) (l : List Nd) (hN : ss.length ≤ 1000000) (hv : ∀ s ∈ ss, s.vals.length ≤ 1000000 ∧ s.vals.length ≤ s.vc) (hn : l.length ≤ 1000000) (A A2 : Option Addr) (c c2 : Nat) (w : World) (rs : Sgs w w.heap.size A ss) (rn : Nds w w.heap.size A2 l) :
    Calls Tryz.prog 32 #[.agg #[.int .i64 P, .slice A ss.length c], .agg #[.slice A2 l.length c2]] w (TxtPost (chkE P ss l) (plnL P ss l) w) := by
  obtain ⟨w1, hw1⟩ : ∃ w1, w1 = ((w.alloc (.cells #[.int .i64 P, .slice A ss.length c] 24)).alloc (.cells #[.slice A2 l.length c2] 30)).alloc (.cells #[.slice none 0 0] 30) := ⟨_, rfl⟩
  have hb1 : Below w.heap.size w w1 := by rw [hw1]; exact (((Below.refl _ _).alloc (Nat.le_refl _) _).alloc (by simp) _).alloc (by simp; omega) _
  have hz1 : w1.heap.size = w.heap.size + 3 := by rw [hw1]; simp
  have c0 : w1.cell? ⟨w.heap.size, 0, none⟩ = some (.int .i64 P) := by rw [hw1]; exact cell_old (cell_old (cell_here rfl rfl))
  have c1 : w1.cell? ⟨w.heap.size, 1, none⟩ = some (.slice A ss.length c) := by rw [hw1]; exact cell_old (cell_old (cell_here rfl rfl))
  have c3 : w1.cell? ⟨w.heap.size + 1, 0, none⟩ = some (.slice A2 l.length c2) := by rw [hw1]; exact cell_old (cell_here (by simp) rfl)
  have c4 : w1.cell? ⟨w.heap.size + 2, 0, none⟩ = some (.slice none 0 0) := by rw [hw1]; exact cell_here (by simp) rfl
  have z4 : w1.frozen? ⟨w.heap.size + 2, 0, none⟩ = false := by rw [hw1]; exact free_here (by simp)
  have HCK := hid (check_any P ss l hN hv hn A A2 c c2 w1 ((rs.below hb1).more (by omega)) ((rn.below hb1).more (by omega)))
  have HGD := hid fun (h : chkE P ss l = 0) => (good_of (chkE_zero h).2.2.1).deps
  have m1 := plnL_bad (P := P) (ss := ss) (l := l); have m2 := plnL_ok (P := P) (ss := ss) (l := l)
  generalize plnL P ss l = L at m1 m2 ⊢
  generalize chkE P ss l = CE at HCK m1 m2 HGD
  have M1 := hid m1; have M2 := hid m2
  clear m1 m2
  obtain ⟨N, hNN⟩ : ∃ N, N = ss.length := ⟨_, rfl⟩
  rw [← hNN] at HCK c1 hw1 hN ⊢
  obtain ⟨n, hnn⟩ : ∃ n, n = l.length := ⟨_, rfl⟩
  rw [← hnn] at HCK c3 hw1 hn HGD ⊢
  try rw [← hnn] at M2
  have HW1 := hid hw1; have HB1 := hid hb1; have HR := hid rn; have HRS := hid rs; have HNN := hid hnn; have HNS := hid hNN
  have hzz : w.heap.size + 1 < w1.heap.size := by omega
  have hzy : w.heap.size + 2 < w1.heap.size := by omega
  have hzx : w.heap.size < w1.heap.size := by omega
  have HC1 := hid fun (wr : World) (h : Below w1.heap.size w1 wr) => (h.cell (p := ⟨w.heap.size, 1, none⟩) hzx).trans c1
  have HC3 := hid fun (wr : World) (h : Below w1.heap.size w1 wr) => (h.cell (p := ⟨w.heap.size + 1, 0, none⟩) hzz).trans c3
  have HC4 := hid fun (wr : World) (h : Below w1.heap.size w1 wr) => (h.cell (p := ⟨w.heap.size + 2, 0, none⟩) hzy).trans c4
  have HZ4 := hid fun (wr : World) (h : Below w1.heap.size w1 wr) => (h.frozen (p := ⟨w.heap.size + 2, 0, none⟩) hzy).trans z4
  have HW : Hid (∀ wr, Below w1.heap.size w1 wr → Below w.heap.size w wr) := fun wr h => hb1.trans (h.mono (by omega))
  clear hw1 hb1 hz1 rs rn hv hnn hNN
  go_enter Tryz.func32, Tryz.ntmps32
  go_upto_region 1 with (fail)
  simp only [Nat.add_assoc, Nat.reduceAdd]
  rw [← HW1.out]
  clear HW1
  obtain ⟨B0, hB0⟩ : ∃ B0, B0 = w.heap.size := ⟨_, rfl⟩
  obtain ⟨B1, hB1⟩ : ∃ B1, B1 = B0 + 1 := ⟨_, rfl⟩
  obtain ⟨B2, hB2⟩ : ∃ B2, B2 = B0 + 2 := ⟨_, rfl⟩
  rw [← hB0, ← hB1] at c3 HC3 hzz
  rw [← hB0, ← hB2] at c4 z4 HC4 HZ4 hzy
  rw [← hB0] at c0 c1 HC1 hzx
  have HB0 := hid hB0
  rw [← hB0, ← hB1, ← hB2]
  have hlt : w.heap.size ≤ B2 := by omega
  have hb0 : B0 < B1 := by omega
  have hb2 : B1 < B2 := by omega
  clear hB1 hB2 hB0
  by_cases hCE : CE = 0
  · have f0 : (CE != 0) = false := by simp [hCE]
    have x2 := M2.out hCE
    replace HGD := hid (HGD.out hCE)
    have X2 := hid x2
    clear M1 M2 x2
    subst hCE
    go_wp2_with (first | (go_at_call 17; refine HCK.out.mono ?_; rintro e w2 ⟨rfl, hb2'⟩; have p1 := HC1.out w2 hb2'; have p3 := HC3.out w2 hb2'; have p3a := fun X => HC3.out (w2.alloc X) (hb2'.alloc hb2'.size X); have HB2 := hid hb2'; clear hb2' HCK c0 c1 c3 c4 z4))
    obtain ⟨B, hB⟩ : ∃ B, B = w2.heap.size := ⟨_, rfl⟩
    have hOS := OutT.start hB
    have hZ2 := HB2.out.size
    rw [← hB] at hZ2 ⊢
    have HOS := hid hOS
    have HBb := hid hB
    clear hB hOS p3 p1 p3a
    go_loopw [8, 21] (fun lv kv wr => ∃ (k : Nat) (le : Int) (v : Value), k ≤ n ∧ kv = .int .i64 k ∧ lv = .int .i64 le ∧ Hid (le = if inH l k then 1 else 0) ∧ Hid (OutT B w2 (plR l k) v wr)) (fun _ kv _ => n - (intOf kv).toNat)
    case atStart => exact ⟨0, 0, .slice none 0 0, by omega, rfl, rfl, hid rfl, HOS⟩
    case round =>
      obtain ⟨k, le, v, hk, rfl, rfl, hle, hO⟩ := hrel
      have hbw : Below w1.heap.size w1 wr := HB2.out.trans (hO.out.bel.mono hZ2)
      obtain ⟨A5, c5, rfl⟩ := own_slice hO.out.own
      have hoc := hO.out.cell
      have pm0 := hoc.1; have zm0 := hoc.2.1; have hBw := hoc.2.2
      clear hoc
      by_cases hkn : k < n
      · have hkl : k < l.length := by rw [← HNN.out]; exact hkn
        obtain ⟨b, o, rfl, hbB, hc⟩ := HR.out.at (by omega)
        have hx := (hc k hkl).below (HW.out _ hbw) hbB
        have hdp := HGD.out k hkn
        have hst := plR_skip (l := l) (k := k); have hsa := plR_add (l := l) (k := k)
        have hi1 : inH l (k + 1) = if dep l k = 0 then false else if kd l k = 7 then true else inH l k := rfl
        rw [nd_at hkl] at hsa
        rw [kd_at hkl, dep_at hkl] at hst hsa hi1
        rw [dep_at hkl] at hdp
        have hll := plR_len l k
        obtain ⟨m, hm⟩ : ∃ m, m = (plR l k).length := ⟨_, rfl⟩
        rw [← hm] at pm0 hll
        have HM := hid hm
        have hle0 : 0 ≤ le ∧ le ≤ 1 := by rw [hle.out]; split <;> decide
        have hle1 := hle0.1; have hle2 := hle0.2
        have hle3 := hle.out
        generalize l[k]'hkl = nd0 at hx hst hsa hi1 hdp
        obtain ⟨kk, dp, sg, tn, mi, st, mn, mx⟩ := nd0
        have d1 := hx.kind; have d2 := hx.depth; have d3 := hx.sign; have d4 := hx.turn; have d5 := hx.mir; have d6 := hx.state; have d7 := hx.mn; have d8 := hx.mx
        simp only [] at d1 d2 d3 d4 d5 d6 d7 d8 hst hsa hi1 hdp
        have hdp1 := hdp.1; have hdp2 := hdp.2
        have g0 : (k : Int) < (n : Int) := by omega
        have hOq := hO.out
        rw [← hm] at hOq
        have HOO := hid hOq
        have HNX := hid fun (W3 : World) (hb : Below wr.heap.size wr W3) (ys : List Value) (nd1 : Nd) (hy : ys = nd1.cells) (v4 : Value) (w4 : World) (ho4 : w4.ownsRow (B + 1) 67 8 v4 (m + 1) (flatN (plR l k) ++ ys)) (hg4 : W3.grownBy w4 (Value.slice A5 m c5).ownBlock) => OutT.step (n := m) HOO.out hb HM.out hy ho4 hg4
        have HOW := hid fun (W3 : World) (hb : Below wr.heap.size wr W3) => (show W3.ownsRow (B + 1) 67 8 (.slice A5 m c5) m (flatN (plR l k)) from by have := own_keep HOO.out.own hb; rw [← HM.out] at this; exact this)
        have HOB := hid fun (X : Obj) => HOO.out.below ((Below.refl wr.heap.size wr).alloc (Nat.le_refl _) X)
        have HBA := hid fun (X Y : Obj) => ((Below.refl wr.heap.size wr).alloc (Nat.le_refl _) X).alloc (by simp) Y
        have hBA := hid (show B + 1 ≤ wr.heap.size from hBw)
        clear hx hc hdp hle0 hO hOq hle hm hbw
        by_cases hd : dp = 0
        · subst hd
          have hi2 : inH l (k + 1) = false := hi1
          rw [hi2] at hsa
          replace hsa := hsa (fun h => h.1 rfl)
          by_cases h7 : kk = 7
          · subst h7
            have HSA : Hid (plR l (k + 1) = plR l k ++ [⟨2, 0, sg, tn, mi, st, mn, mx⟩]) := hid hsa
            have HLE : Hid ((0 : Int) = if inH l (k + 1) = true then 1 else 0) := by rw [hi2]; exact hid rfl
            clear hst hsa hi1 hi2 hle3
            go_wp2_with (first | (at_builtin; refine app_elem rfl (.tmp 43) (.tmp 45) Tryz.underlying28 Tryz.infoNode rfl (by decide) (by decide) rfl (B + 1) _ m (flatN (plR l k)) rfl (HOW.out _ (HBA.out _ _)) ⟨wr.heap.size + 1, 0, none⟩ [.int .i64 2, .int .i64 0, .int .i64 sg, .int .i64 tn, .bool mi, .int .i64 st, .int .i64 mn, .int .i64 mx] rfl rfl (cell_news_at _ _ _ (by simp)) (fun u hu => flatN_one (l := [⟨2, 0, sg, tn, mi, st, mn, mx⟩]) (by rw [flatN_sing]; exact hu)) (by omega) (Nat.le_trans hBA.out (HBA.out _ _).size) ?_; intro v4 w4 ho4 hg4; obtain ⟨p9, z9, ho9⟩ := HNX.out _ (HBA.out _ _) _ ⟨2, 0, sg, tn, mi, st, mn, mx⟩ rfl v4 w4 ho4 hg4; obtain ⟨A9, c9, rfl⟩ := own_slice ho4; have HO9 := hid ho9; clear ho4 hg4 ho9))
            go_roundw
            case rel => exact ⟨k + 1, 0, _, by omega, by go_num, rfl, HLE, by rw [HSA.out]; exact HO9⟩
            case measure => simp [intOf]; omega
          · have f7 : (kk == 7) = false := by simp [h7]
            have HSA : Hid (plR l (k + 1) = plR l k ++ [⟨kk, 0, sg, tn, mi, st, mn, mx⟩]) := by refine hid ?_; rw [hsa]; simp [lowN, h7]
            have HLE : Hid ((0 : Int) = if inH l (k + 1) = true then 1 else 0) := by rw [hi2]; exact hid rfl
            clear hst hsa hi1 hi2 hle3 h7
            go_wp2_with (first | (at_builtin; refine app_elem rfl (.tmp 43) (.tmp 45) Tryz.underlying28 Tryz.infoNode rfl (by decide) (by decide) rfl (B + 1) _ m (flatN (plR l k)) rfl (HOW.out _ (HBA.out _ _)) ⟨wr.heap.size + 1, 0, none⟩ [.int .i64 kk, .int .i64 0, .int .i64 sg, .int .i64 tn, .bool mi, .int .i64 st, .int .i64 mn, .int .i64 mx] rfl rfl (cell_news_at _ _ _ (by simp)) (fun u hu => flatN_one (l := [⟨kk, 0, sg, tn, mi, st, mn, mx⟩]) (by rw [flatN_sing]; exact hu)) (by omega) (Nat.le_trans hBA.out (HBA.out _ _).size) ?_; intro v4 w4 ho4 hg4; obtain ⟨p9, z9, ho9⟩ := HNX.out _ (HBA.out _ _) _ ⟨kk, 0, sg, tn, mi, st, mn, mx⟩ rfl v4 w4 ho4 hg4; obtain ⟨A9, c9, rfl⟩ := own_slice ho4; have HO9 := hid ho9; clear ho4 hg4 ho9))
            go_roundw
            case rel => exact ⟨k + 1, 0, _, by omega, by go_num, rfl, HLE, by rw [HSA.out]; exact HO9⟩
            case measure => simp [intOf]; omega
        · have fd : (dp == 0) = false := by simp [hd]
          rw [if_neg hd] at hi1
          by_cases h7 : kk = 7
          · rw [if_pos h7] at hi1
            have HSA := hid (hst hd h7)
            have HLE : Hid ((1 : Int) = if inH l (k + 1) = true then 1 else 0) := by rw [hi1]; exact hid rfl
            subst h7
            clear hst hsa hi1 hle3 hd HNX HOW HBA
            go_wp2_with fail
            go_roundw
            case rel => exact ⟨k + 1, 1, _, by omega, by go_num, rfl, HLE, by rw [HSA.out]; exact hid (HOB.out _)⟩
            case measure => simp [intOf]; omega
          · rw [if_neg h7] at hi1
            have f7 : (kk == 7) = false := by simp [h7]
            have HSA : Hid (plR l (k + 1) = plR l k ++ [⟨kk, dp - le, sg, tn, mi, st, mn, mx⟩]) := by refine hid ?_; rw [hsa (fun h => h7 h.2), hi1, hle3]; simp [lowN, h7]
            have HLE : Hid (le = if inH l (k + 1) = true then 1 else 0) := by rw [hi1]; exact hid hle3
            clear hst hsa hi1 hle3 h7 hd
            go_wp2_with (first | (at_builtin; refine app_elem rfl (.tmp 43) (.tmp 45) Tryz.underlying28 Tryz.infoNode rfl (by decide) (by decide) rfl (B + 1) _ m (flatN (plR l k)) rfl (HOW.out _ (HBA.out _ _)) ⟨wr.heap.size + 1, 0, none⟩ [.int .i64 kk, .int .i64 (dp - le), .int .i64 sg, .int .i64 tn, .bool mi, .int .i64 st, .int .i64 mn, .int .i64 mx] rfl rfl (cell_news_at _ _ _ (by simp)) (fun u hu => flatN_one (l := [⟨kk, (dp - le), sg, tn, mi, st, mn, mx⟩]) (by rw [flatN_sing]; exact hu)) (by omega) (Nat.le_trans hBA.out (HBA.out _ _).size) ?_; intro v4 w4 ho4 hg4; obtain ⟨p9, z9, ho9⟩ := HNX.out _ (HBA.out _ _) _ ⟨kk, (dp - le), sg, tn, mi, st, mn, mx⟩ rfl v4 w4 ho4 hg4; obtain ⟨A9, c9, rfl⟩ := own_slice ho4; have HO9 := hid ho9; clear ho4 hg4 ho9))
            go_roundw
            case rel => exact ⟨k + 1, le, _, by omega, by go_num, rfl, HLE, by rw [HSA.out]; exact HO9⟩
            case measure => simp [intOf]; omega
      · obtain rfl : n = k := by omega
        have g0 : decide (n < n) = false := by simp
        have p4 := HC4.out wr hbw; have z4 := HZ4.out wr hbw
        have HO := hid hO.out; have HBW := hid hbw
        have HXX : Hid (L = plR l n) := by rw [X2.out, HNN.out]; exact hid rfl
        clear hO hle hbw
        generalize plR l n = D at pm0 HO HXX
        obtain ⟨m, hm⟩ : ∃ m, m = D.length := ⟨_, rfl⟩
        have hO2 := HO.out
        rw [← hm] at pm0 hO2
        replace HO := hid hO2
        have HM := hid hm
        clear hm hO2
        go_wp2_with fail
        have hq := World.cell?_setCell_same _ _ (.slice A5 m c5) p4
        exact bodyPost_ret (v := .tuple #[.agg #[.slice A5 m c5], .int .i64 0]) (by simp [results, Tryz.results32, go_sem, hq]) rfl ⟨.slice A5 m c5, rfl, by rw [HXX.out, ← HM.out]; have h9 := HO.out.own; rw [← HM.out] at h9; exact own_base (ownsRow_setCell_other h9 (a := ⟨B2, 0, none⟩) (fun he => by have := (h9.lt _ he).1; simp at this <;> omega) _) (by omega), (HW.out _ HBW.out).setCell hlt _⟩
  · have f0 : (CE != 0) = true := by simp [hCE]
    have x2 := M1.out hCE
    have X2 := hid x2
    clear x2
    clear M1 M2 hCE
    go_wp2_with (first | (go_at_call 17; refine HCK.out.mono ?_; rintro e w2 ⟨rfl, hb2'⟩; have p4 := HC4.out w2 hb2'; have q4 := HZ4.out w2 hb2'; have HB2 := hid hb2'; clear hb2' HCK c0 c1 c3 c4 z4))
    have hq := World.cell?_setCell_same _ _ (.slice none 0 0) p4
    exact bodyPost_ret (v := .tuple #[.agg #[.slice none 0 0], .int .i64 CE]) (by simp [results, Tryz.results32, go_sem, hq]) rfl ⟨.slice none 0 0, rfl, by rw [X2.out]; exact World.ownsRow_nil _ _ _ _, (HW.out _ HB2.out).setCell hlt _⟩
end Go.Proofs.YtimblabaeclhpaaGreat

/- WALK: grid.begin, grid.Lay (printed by gen_laye.py). -/
namespace Go.Proofs.YtimblabaeclhpaaGreat
open Go.RowKit
/-- The error of a text and a page. -/
noncomputable def begE (P : Int) (ss : List Sg) (l : List Nd) (d wd : Int) : Int := if chkE P ss l = 0 then pageE d wd else chkE P ss l
theorem page_ok {d wd : Int} (h : pageE d wd = 0) : (1 ≤ d ∧ d ≤ 4) ∧ 48 ≤ wd ∧ wd ≤ 4800 := by
  unfold pageE at h
  split at h
  · assumption
  · omega
theorem beg_ok {P : Int} {ss : List Sg} {l : List Nd} {d wd : Int} (h : begE P ss l d wd = 0) : chkE P ss l = 0 ∧ pageE d wd = 0 := by
  unfold begE at h
  split at h
  · exact ⟨by assumption, h⟩
  · exact absurd h (by assumption)
def BegPost (P : Int) (ss : List Sg) (l : List Nd) (d wd : Int) (A : Option Addr) (c : Nat) (w : World) (e : Ending) (w' : World) : Prop :=
  Below w.heap.size w w' ∧ ((begE P ss l d wd ≠ 0 ∧ e = .returned (.tuple #[.agg #[.int .i64 0, .slice none 0 0, .slice none 0 0, .bool false], .int .i64 (begE P ss l d wd)])) ∨
    (begE P ss l d wd = 0 ∧ ∃ (A3 : Option Addr) (c3 : Nat), e = .returned (.tuple #[.agg #[.int .i64 P, .slice A ss.length c, .slice A3 (plR l l.length).length c3, .bool (decide (d ≤ 2))], .int .i64 0]) ∧ Nds w' w'.heap.size A3 (plR l l.length)))
/-- A layout in a box. -/
theorem lay_set {W : World} {b : Nat} {x y z u x' y' z' u' : Value} {T : TypeId} (h : W.heap[b]? = some (.cells #[x, y, z, u] T (0, 0))) : ((((W.setCell ⟨b, 0, none⟩ x').setCell ⟨b, 1, none⟩ y').setCell ⟨b, 2, none⟩ z').setCell ⟨b, 3, none⟩ u').heap[b]? = some (.cells #[x', y', z', u'] T (0, 0)) := by
  simp [World.setCell, h, Array.getElem?_modify] <;> rfl
theorem four_cells {W : World} {b : Nat} {x y z u : Value} {T : TypeId} (h : W.heap[b]? = some (.cells #[x, y, z, u] T (0, 0))) : ((W.cell? ⟨b, 0, none⟩ = some x ∧ W.cell? ⟨b, 1, none⟩ = some y) ∧ W.cell? ⟨b, 2, none⟩ = some z ∧ W.cell? ⟨b, 3, none⟩ = some u) ∧ (W.frozen? ⟨b, 0, none⟩ = false ∧ W.frozen? ⟨b, 1, none⟩ = false) ∧ W.frozen? ⟨b, 2, none⟩ = false ∧ W.frozen? ⟨b, 3, none⟩ = false := by
  refine ⟨⟨⟨?_, ?_⟩, ?_, ?_⟩, ⟨?_, ?_⟩, ?_, ?_⟩ <;> simp [World.cell?, World.frozen?, h]
theorem own_far {w : World} {base size n b' k : Nat} {e : TypeId} {v u : Value} {xs : List Value} (h : w.ownsRow base e size v n xs) (hb : b' < base) : (w.setCell ⟨b', k, none⟩ u).ownsRow base e size v n xs := by
  obtain ⟨h1, h2⟩ := h
  refine ⟨h1, ?_⟩
  rcases h2 with h2 | ⟨g, cap, cur, hv, hg, hh, r⟩
  · exact .inl h2
  · exact .inr ⟨g, cap, cur, hv, hg, by rw [far_blk (by omega)]; exact hh, r⟩
set_option maxRecDepth 100000 in
set_option maxHeartbeats 4000000 in
theorem begin_any (P : Int) (ss : List Sg) (l : List Nd) (hN : ss.length ≤ 1000000) (hv : ∀ s ∈ ss, s.vals.length ≤ 1000000 ∧ s.vals.length ≤ s.vc) (hn : l.length ≤ 1000000) (d wd : Int) (A A2 : Option Addr) (c c2 : Nat) (w : World) (rs : Sgs w w.heap.size A ss) (rn : Nds w w.heap.size A2 l) :
    Calls Tryz.prog 19 #[.agg #[.int .i64 P, .slice A ss.length c], .agg #[.slice A2 l.length c2], .agg #[.int .i64 d, .int .i64 wd]] w (BegPost P ss l d wd A c w) := by
  obtain ⟨w1, hw1⟩ : ∃ w1, w1 = (((w.alloc (.cells #[.int .i64 P, .slice A ss.length c] 24)).alloc (.cells #[.slice A2 l.length c2] 30)).alloc (.cells #[.int .i64 d, .int .i64 wd] 40)).alloc (.cells #[.int .i64 0, .slice none 0 0, .slice none 0 0, .bool false] 69) := ⟨_, rfl⟩
  have hb1 : Below w.heap.size w w1 := by rw [hw1]; exact ((((Below.refl _ _).alloc (Nat.le_refl _) _).alloc (by simp) _).alloc (by simp; omega) _).alloc (by simp; omega) _
  have hz1 : w1.heap.size = w.heap.size + 4 := by rw [hw1]; simp
  have g0 : w1.heap[w.heap.size]? = some (.cells #[.int .i64 P, .slice A ss.length c] 24 (0, 0)) := by rw [hw1]; exact old_blk (old_blk (old_blk (nw_blk rfl)))
  have g1 : w1.heap[w.heap.size + 1]? = some (.cells #[.slice A2 l.length c2] 30 (0, 0)) := by rw [hw1]; exact old_blk (old_blk (nw_blk (by simp)))
  have g2 : w1.heap[w.heap.size + 2]? = some (.cells #[.int .i64 d, .int .i64 wd] 40 (0, 0)) := by rw [hw1]; exact old_blk (nw_blk (by simp))
  have g3 : w1.heap[w.heap.size + 3]? = some (.cells #[.int .i64 0, .slice none 0 0, .slice none 0 0, .bool false] 69 (0, 0)) := by rw [hw1]; exact nw_blk (by simp)
  have HC := hid fun (W : World) (h : Below w1.heap.size w1 W) => (show ((W.cell? ⟨w.heap.size, 0, none⟩ = some (.int .i64 P) ∧ W.cell? ⟨w.heap.size, 1, none⟩ = some (.slice A ss.length c)) ∧ W.cell? ⟨w.heap.size + 2, 0, none⟩ = some (.int .i64 d) ∧ W.cell? ⟨w.heap.size + 2, 1, none⟩ = some (.int .i64 wd)) ∧ W.heap[w.heap.size + 3]? = some (.cells #[.int .i64 0, .slice none 0 0, .slice none 0 0, .bool false] 69 (0, 0)) from by
    have h0 := (h.block w.heap.size (by omega)).trans g0
    have h2 := (h.block (w.heap.size + 2) (by omega)).trans g2
    refine ⟨⟨⟨?_, ?_⟩, ?_, ?_⟩, (h.block (w.heap.size + 3) (by omega)).trans g3⟩ <;> simp [World.cell?, h0, h2])
  have c1 : w1.cell? ⟨w.heap.size + 1, 0, none⟩ = some (.slice A2 l.length c2) := by simp [World.cell?, g1]
  have HPL := hid (plainE_any P ss l hN hv hn A A2 c c2 w1 ((rs.below hb1).more hb1.size) (Reads.more (rn.below hb1) hb1.size))
  have HPC := hid fun W : World => pageCheck_any d wd W
  have HRW := hid fun W : World => rows_any d wd W
  have hbe : begE P ss l d wd = if chkE P ss l = 0 then pageE d wd else chkE P ss l := rfl
  have hpl : chkE P ss l = 0 → plnL P ss l = plR l l.length := plnL_ok
  have HPO := hid fun (w' : World) (e : Ending) (h1 : Below w.heap.size w w') (h2 : begE P ss l d wd ≠ 0) (h3 : e = .returned (.tuple #[.agg #[.int .i64 0, .slice none 0 0, .slice none 0 0, .bool false], .int .i64 (begE P ss l d wd)])) => (show BegPost P ss l d wd A c w e w' from ⟨h1, .inl ⟨h2, h3⟩⟩)
  have HPX := hid fun (w' : World) (e : Ending) (A3 : Option Addr) (c3 : Nat) (h1 : Below w.heap.size w w') (h2 : begE P ss l d wd = 0) (h3 : e = .returned (.tuple #[.agg #[.int .i64 P, .slice A ss.length c, .slice A3 (plR l l.length).length c3, .bool (decide (d ≤ 2))], .int .i64 0])) (h4 : Nds w' w'.heap.size A3 (plR l l.length)) => (show BegPost P ss l d wd A c w e w' from ⟨h1, .inr ⟨h2, A3, c3, h3, h4⟩⟩)
  have HPL := hid (HPL.out.mono fun (e : Ending) (w' : World) ⟨v, e1, e2, e3⟩ => (show ∃ (A3 : Option Addr) (c3 : Nat), e = Ending.returned (.tuple #[.agg #[.slice A3 (plnL P ss l).length c3], .int .i64 (chkE P ss l)]) ∧ w'.ownsRow w1.heap.size 67 8 (.slice A3 (plnL P ss l).length c3) (plnL P ss l).length (flatN (plnL P ss l)) ∧ Below w1.heap.size w1 w' from by
    obtain ⟨A3, c3, rfl⟩ := own_slice e2
    exact ⟨A3, c3, e1, e2, e3⟩))
  rw [hbe] at HPO HPX
  obtain ⟨Q, hQ⟩ : ∃ Q, Q = BegPost P ss l d wd A c w := ⟨_, rfl⟩
  have hQe : ∀ e w', BegPost P ss l d wd A c w e w' = Q e w' := fun e w' => by rw [hQ]
  simp only [hQe] at HPO HPX
  rw [← hQ]
  clear hQe hbe hQ
  generalize plR l l.length = L at HPX hpl
  generalize plnL P ss l = L2 at HPL hpl
  generalize chkE P ss l = E at *
  generalize pageE d wd = F at *
  have HPLQ := hid hpl
  have HW1 := hid hw1; have HB1 := hid hb1; have HZ1 := hid hz1
  clear hw1 hb1 hz1 g0 g1 g2 g3 rs rn hN hv hn hpl
  generalize l.length = n at *
  generalize ss.length = N at *
  by_cases hE : E = 0
  · by_cases hF : F = 0
    · subst hE hF
      have hl := HPLQ.out rfl
      subst hl
      rw [if_pos rfl] at HPX
      clear HPO
      go_enter Tryz.func19, Tryz.ntmps19
      go_upto_region 1 with (fail)
      rw [← HW1.out]
      clear HW1
      obtain ⟨B0, hB0⟩ : ∃ B0, B0 = w.heap.size := ⟨_, rfl⟩
      obtain ⟨B1, hB1⟩ : ∃ B1, B1 = B0 + 1 := ⟨_, rfl⟩
      obtain ⟨B2, hB2⟩ : ∃ B2, B2 = B0 + 2 := ⟨_, rfl⟩
      obtain ⟨B3, hB3⟩ : ∃ B3, B3 = B0 + 3 := ⟨_, rfl⟩
      have hB2' : B0 + 1 + 1 = B2 := by omega
      have hB3' : B2 + 1 = B3 := by omega
      rw [← hB0] at HC c1 HZ1
      rw [← hB1] at c1
      rw [← hB2, ← hB3] at HC
      rw [← hB0]
      try rw [hB2']
      try rw [hB3']
      try rw [← hB1]
      have HB0 := hid hB0; have HBB := hid hB1; have HBC := hid hB2; have HBD := hid hB3
      have h3 : w.heap.size ≤ B3 := by omega
      clear hB0 hB1 hB2 hB3 hB2' hB3'
      obtain ⟨⟨⟨p0, p1⟩, p2, p3⟩, p4⟩ := HC.out w1 (Below.refl _ _)
      go_upto_region 4 with (first | (go_at_call 32; refine HPL.out.mono ?_; rintro e w2 ⟨A3, c3, rfl, hr2, hb2⟩; have HR2 := hid hr2; have HB2 := hid hb2; clear hr2 hb2 p0 p1 p2 p3 p4 c1))
      obtain ⟨w3, hw3⟩ : ∃ w3, w3 = (w2.alloc (.cells #[.slice A3 L2.length c3] 30)) := ⟨_, rfl⟩
      have hb3 : Below w1.heap.size w1 w3 := by rw [hw3]; exact HB2.out.alloc HB2.out.size _
      have hx3 : w3.heap[w2.heap.size]? = some (.cells #[.slice A3 L2.length c3] 30 (0, 0)) := by rw [hw3]; exact nw_blk rfl
      have HR3 := hid (show w3.ownsRow w1.heap.size 67 8 (.slice A3 L2.length c3) L2.length (flatN L2) by rw [hw3]; exact own_keep HR2.out ((Below.refl w2.heap.size w2).alloc (Nat.le_refl _) _))
      rw [← hw3]
      obtain ⟨b8, hb8⟩ : ∃ b8, b8 = w2.heap.size := ⟨_, rfl⟩
      rw [← hb8] at hx3
      try rw [← hb8]
      have HX3 := hid hx3; have HB3 := hid hb3
      clear hw3 hb3 hx3 hb8
      obtain ⟨⟨⟨p0, p1⟩, p2, p3⟩, p4⟩ := HC.out w3 HB3.out
      go_upto_region 7 with (first | (go_at_call 33; refine (HPC.out _).mono ?_; rintro e w4 ⟨rfl, hb4⟩; have HB4 := hid hb4; clear hb4 p0 p1 p2 p3 p4))
      have hx4 : w4.heap[b8]? = some (.cells #[.slice A3 L2.length c3] 30 (0, 0)) := (HB4.out.block _ (lt_of_block HX3.out)).trans HX3.out
      have HBW := hid (bnext0 HB3.out HB4.out)
      have HX4 := hid hx4
      have HR4 := hid (own_keep HR3.out HB4.out)
      clear hx4 HX3 HR3
      refine region_perm 33 [0, 1, 2, 3, 4, 5] [6, 7] (w0 := w4) (by kernel_rfl) (by kernel_rfl) rfl (Below.refl _ _) ?_
      apply Exists.intro
      refine ⟨?hq, ?ht⟩
      case hq =>
        intro wb hwb
        have cz := fun z : BW wb.heap.size wb => HC.out z.val (bnext0 HBW.out (Up.trans hwb z.ok))
        have cy := fun z : BW wb.heap.size wb => ((Up.trans hwb z.ok).block b8 (lt_of_block HX4.out)).trans HX4.out
        have k0 := fun z => (cz z).1.1.1
        have k1 := fun z => (cz z).1.1.2
        have k2 := fun z => (cz z).1.2.1
        have k3 := fun z => (cz z).1.2.2
        have k4 : ∀ z : BW wb.heap.size wb, z.val.cell? ⟨b8, 0, none⟩ = some (.slice A3 L2.length c3) := fun z => by have h := cy z; simp [World.cell?, h]
        clear cz cy
        have HZA := hid (below_class (wb := wb) (Nat.le_refl wb.heap.size) fun z => HRW.out z.val)
        simp only [List.map_cons, List.map_nil, List.getD_cons_zero, List.getD_cons_succ]
        repeat (go_big_quiet_step (first | (go_at_call 34; with_reducible exact (HZA.out _))))
        refine wpQuiet_nil ?_
        exact rfl
      case ht =>
        intro w5 hb5
        have HB5 := hid (bnext0 HBW.out hb5)
        have HR5 := hid (own_keep HR4.out hb5)
        obtain ⟨_, p4⟩ := HC.out w5 HB5.out
        have p4' := p4
        clear hb5
        simp only [List.map_cons, List.map_nil, List.getD_cons_zero, List.getD_cons_succ]
        obtain ⟨⟨⟨j0, j1⟩, j2, j3⟩, ⟨z0, z1⟩, z2, z3⟩ := four_cells p4
        have hs := lay_set (x' := .int .i64 P) (y' := .slice A N c) (z' := .slice A3 L2.length c3) (u' := .bool (decide (d ≤ 2))) p4
        have HS := hid hs
        clear hs p4 p4'
        go_wp2_with fail
        obtain ⟨⟨⟨t0, t1⟩, t2, t3⟩, _⟩ := four_cells HS.out
        have hlt : B3 < w1.heap.size := by have := HZ1.out; have := HBD.out; omega
        have hown := own_far (u := .bool (decide (d ≤ 2))) (k := 3) (own_far (u := .slice A3 L2.length c3) (k := 2) (own_far (u := .slice A N c) (k := 1) (own_far (u := .int .i64 P) (k := 0) HR5.out hlt) hlt) hlt) hlt
        exact bodyPost_ret (v := .tuple #[.agg #[.int .i64 P, .slice A N c, .slice A3 L2.length c3, .bool (decide (d ≤ 2))], .int .i64 0]) (by simp [results, Tryz.results19, go_sem, t0, t1, t2, t3]) rfl (HPX.out _ _ A3 c3 ((((HB1.out.trans (HB5.out.mono HB1.out.size)).setCell h3 _).setCell h3 _).setCell h3 _ |>.setCell h3 _) trivial rfl (Reads.of_own hown))
    · subst hE
      rw [if_pos rfl] at HPO
      replace HPO := hid fun w1 e h1 h2 => HPO.out w1 e h1 hF h2
      have e1 : (F != 0) = true := by simpa using hF
      clear HPX hF
      go_enter Tryz.func19, Tryz.ntmps19
      go_upto_region 1 with (fail)
      rw [← HW1.out]
      clear HW1
      obtain ⟨B0, hB0⟩ : ∃ B0, B0 = w.heap.size := ⟨_, rfl⟩
      obtain ⟨B1, hB1⟩ : ∃ B1, B1 = B0 + 1 := ⟨_, rfl⟩
      obtain ⟨B2, hB2⟩ : ∃ B2, B2 = B0 + 2 := ⟨_, rfl⟩
      obtain ⟨B3, hB3⟩ : ∃ B3, B3 = B0 + 3 := ⟨_, rfl⟩
      have hB2' : B0 + 1 + 1 = B2 := by omega
      have hB3' : B2 + 1 = B3 := by omega
      rw [← hB0] at HC c1 HZ1
      rw [← hB1] at c1
      rw [← hB2, ← hB3] at HC
      rw [← hB0]
      try rw [hB2']
      try rw [hB3']
      try rw [← hB1]
      have HB0 := hid hB0; have HBB := hid hB1; have HBC := hid hB2; have HBD := hid hB3
      have h3 : w.heap.size ≤ B3 := by omega
      clear hB0 hB1 hB2 hB3 hB2' hB3'
      obtain ⟨⟨⟨p0, p1⟩, p2, p3⟩, p4⟩ := HC.out w1 (Below.refl _ _)
      go_upto_region 4 with (first | (go_at_call 32; refine HPL.out.mono ?_; rintro e w2 ⟨A3, c3, rfl, hr2, hb2⟩; have HR2 := hid hr2; have HB2 := hid hb2; clear hr2 hb2 p0 p1 p2 p3 p4 c1))
      obtain ⟨w3, hw3⟩ : ∃ w3, w3 = (w2.alloc (.cells #[.slice A3 L2.length c3] 30)) := ⟨_, rfl⟩
      have hb3 : Below w1.heap.size w1 w3 := by rw [hw3]; exact HB2.out.alloc HB2.out.size _
      have hx3 : w3.heap[w2.heap.size]? = some (.cells #[.slice A3 L2.length c3] 30 (0, 0)) := by rw [hw3]; exact nw_blk rfl
      have HR3 := hid (show w3.ownsRow w1.heap.size 67 8 (.slice A3 L2.length c3) L2.length (flatN L2) by rw [hw3]; exact own_keep HR2.out ((Below.refl w2.heap.size w2).alloc (Nat.le_refl _) _))
      rw [← hw3]
      obtain ⟨b8, hb8⟩ : ∃ b8, b8 = w2.heap.size := ⟨_, rfl⟩
      rw [← hb8] at hx3
      try rw [← hb8]
      have HX3 := hid hx3; have HB3 := hid hb3
      clear hw3 hb3 hx3 hb8
      obtain ⟨⟨⟨p0, p1⟩, p2, p3⟩, p4⟩ := HC.out w3 HB3.out
      go_upto_region 6 with (first | (go_at_call 33; refine (HPC.out _).mono ?_; rintro e w4 ⟨rfl, hb4⟩; have HB4 := hid hb4; clear hb4 p0 p1 p2 p3 p4))
      have HBW := hid (bnext0 HB3.out HB4.out)
      obtain ⟨⟨⟨p0, p1⟩, p2, p3⟩, p4⟩ := HC.out w4 HBW.out
      obtain ⟨⟨⟨j0, j1⟩, j2, j3⟩, ⟨z0, z1⟩, z2, z3⟩ := four_cells p4
      have HS := hid (lay_set (x' := .int .i64 0) (y' := .slice none 0 0) (z' := .slice none 0 0) (u' := .bool false) p4)
      clear p4 p0 p1 p2 p3
      go_wp2_with fail
      obtain ⟨⟨⟨t0, t1⟩, t2, t3⟩, _⟩ := four_cells HS.out
      exact bodyPost_ret (v := .tuple #[.agg #[.int .i64 0, .slice none 0 0, .slice none 0 0, .bool false], .int .i64 F]) (by simp [results, Tryz.results19, go_sem, t0, t1, t2, t3]) rfl (HPO.out _ _ ((((HB1.out.trans (HBW.out.mono HB1.out.size)).setCell h3 _).setCell h3 _).setCell h3 _ |>.setCell h3 _) rfl)
  · rw [if_neg hE] at HPO
    replace HPO := hid fun w1 e h1 h2 => HPO.out w1 e h1 hE h2
    have e1 : (E != 0) = true := by simpa using hE
    clear HPX hE
    go_enter Tryz.func19, Tryz.ntmps19
    go_upto_region 1 with (fail)
    rw [← HW1.out]
    clear HW1
    obtain ⟨B0, hB0⟩ : ∃ B0, B0 = w.heap.size := ⟨_, rfl⟩
    obtain ⟨B1, hB1⟩ : ∃ B1, B1 = B0 + 1 := ⟨_, rfl⟩
    obtain ⟨B2, hB2⟩ : ∃ B2, B2 = B0 + 2 := ⟨_, rfl⟩
    obtain ⟨B3, hB3⟩ : ∃ B3, B3 = B0 + 3 := ⟨_, rfl⟩
    have hB2' : B0 + 1 + 1 = B2 := by omega
    have hB3' : B2 + 1 = B3 := by omega
    rw [← hB0] at HC c1 HZ1
    rw [← hB1] at c1
    rw [← hB2, ← hB3] at HC
    rw [← hB0]
    try rw [hB2']
    try rw [hB3']
    try rw [← hB1]
    have HB0 := hid hB0; have HBB := hid hB1; have HBC := hid hB2; have HBD := hid hB3
    have h3 : w.heap.size ≤ B3 := by omega
    clear hB0 hB1 hB2 hB3 hB2' hB3'
    obtain ⟨⟨⟨p0, p1⟩, p2, p3⟩, p4⟩ := HC.out w1 (Below.refl _ _)
    go_upto_region 3 with (first | (go_at_call 32; refine HPL.out.mono ?_; rintro e w2 ⟨A3, c3, rfl, hr2, hb2⟩; have HR2 := hid hr2; have HB2 := hid hb2; clear hr2 hb2 p0 p1 p2 p3 p4 c1))
    obtain ⟨w3, hw3⟩ : ∃ w3, w3 = (w2.alloc (.cells #[.slice A3 L2.length c3] 30)) := ⟨_, rfl⟩
    have hb3 : Below w1.heap.size w1 w3 := by rw [hw3]; exact HB2.out.alloc HB2.out.size _
    have hx3 : w3.heap[w2.heap.size]? = some (.cells #[.slice A3 L2.length c3] 30 (0, 0)) := by rw [hw3]; exact nw_blk rfl
    have HR3 := hid (show w3.ownsRow w1.heap.size 67 8 (.slice A3 L2.length c3) L2.length (flatN L2) by rw [hw3]; exact own_keep HR2.out ((Below.refl w2.heap.size w2).alloc (Nat.le_refl _) _))
    rw [← hw3]
    obtain ⟨b8, hb8⟩ : ∃ b8, b8 = w2.heap.size := ⟨_, rfl⟩
    rw [← hb8] at hx3
    try rw [← hb8]
    have HX3 := hid hx3; have HB3 := hid hb3
    clear hw3 hb3 hx3 hb8
    obtain ⟨⟨⟨p0, p1⟩, p2, p3⟩, p4⟩ := HC.out w3 HB3.out
    obtain ⟨⟨⟨j0, j1⟩, j2, j3⟩, ⟨z0, z1⟩, z2, z3⟩ := four_cells p4
    have HS := hid (lay_set (x' := .int .i64 0) (y' := .slice none 0 0) (z' := .slice none 0 0) (u' := .bool false) p4)
    clear p4 p0 p1 p2 p3
    go_wp2_with fail
    obtain ⟨⟨⟨t0, t1⟩, t2, t3⟩, _⟩ := four_cells HS.out
    exact bodyPost_ret (v := .tuple #[.agg #[.int .i64 0, .slice none 0 0, .slice none 0 0, .bool false], .int .i64 E]) (by simp [results, Tryz.results19, go_sem, t0, t1, t2, t3]) rfl (HPO.out _ _ ((((HB1.out.trans (HB3.out.mono HB1.out.size)).setCell h3 _).setCell h3 _).setCell h3 _ |>.setCell h3 _) rfl)
/-- The boxes of a text on a page. -/
noncomputable def layR (P : Int) (ss : List Sg) (l : List Nd) (d wd : Int) : List Bxv := if begE P ss l d wd = 0 then layBx ss (plR l l.length) (decide (d ≤ 2)) d wd else []
def LayPost (P : Int) (ss : List Sg) (l : List Nd) (d wd : Int) (w : World) (e : Ending) (w' : World) : Prop :=
  ∃ v, e = .returned (.tuple #[v, .int .i64 (begE P ss l d wd)]) ∧ w'.ownsRow w.heap.size 44 15 v (layR P ss l d wd).length (flatB (layR P ss l d wd)) ∧ Below w.heap.size w w'
set_option maxRecDepth 100000 in
set_option maxHeartbeats 4000000 in
theorem lay_any (P : Int) (ss : List Sg) (l : List Nd) (hN : ss.length ≤ 1000000) (hv : ∀ s ∈ ss, s.vals.length ≤ 1000000 ∧ s.vals.length ≤ s.vc) (hn : l.length ≤ 1000000) (d wd : Int) (A A2 : Option Addr) (c c2 : Nat) (w : World) (rs : Sgs w w.heap.size A ss) (rn : Nds w w.heap.size A2 l) :
    Calls Tryz.prog 9 #[.agg #[.int .i64 P, .slice A ss.length c], .agg #[.slice A2 l.length c2], .agg #[.int .i64 d, .int .i64 wd]] w (LayPost P ss l d wd w) := by
  obtain ⟨w1, hw1⟩ : ∃ w1, w1 = ((w.alloc (.cells #[.int .i64 P, .slice A ss.length c] 24)).alloc (.cells #[.slice A2 l.length c2] 30)).alloc (.cells #[.int .i64 d, .int .i64 wd] 40) := ⟨_, rfl⟩
  have hb1 : Below w.heap.size w w1 := by rw [hw1]; exact (((Below.refl _ _).alloc (Nat.le_refl _) _).alloc (by simp) _).alloc (by simp; omega) _
  have hz1 : w1.heap.size = w.heap.size + 3 := by rw [hw1]; simp
  have g0 : w1.heap[w.heap.size]? = some (.cells #[.int .i64 P, .slice A ss.length c] 24 (0, 0)) := by rw [hw1]; exact old_blk (old_blk (nw_blk rfl))
  have g1 : w1.heap[w.heap.size + 1]? = some (.cells #[.slice A2 l.length c2] 30 (0, 0)) := by rw [hw1]; exact old_blk (nw_blk (by simp))
  have g2 : w1.heap[w.heap.size + 2]? = some (.cells #[.int .i64 d, .int .i64 wd] 40 (0, 0)) := by rw [hw1]; exact nw_blk (by simp)
  have HC := hid fun (W : World) (h : Below w1.heap.size w1 W) => (show W.cell? ⟨w.heap.size + 2, 0, none⟩ = some (.int .i64 d) ∧ W.cell? ⟨w.heap.size + 2, 1, none⟩ = some (.int .i64 wd) from by
    have h2 := (h.block (w.heap.size + 2) (by omega)).trans g2
    refine ⟨?_, ?_⟩ <;> simp [World.cell?, h2])
  have c0 : w1.cell? ⟨w.heap.size, 0, none⟩ = some (.int .i64 P) := by simp [World.cell?, g0]
  have c1 : w1.cell? ⟨w.heap.size, 1, none⟩ = some (.slice A ss.length c) := by simp [World.cell?, g0]
  have c2' : w1.cell? ⟨w.heap.size + 1, 0, none⟩ = some (.slice A2 l.length c2) := by simp [World.cell?, g1]
  have HBE := hid (begin_any P ss l hN hv hn d wd A A2 c c2 w1 ((rs.below hb1).more hb1.size) (Reads.more (rn.below hb1) hb1.size))
  have HBX := hid fun (h : begE P ss l d wd = 0) (A3 : Option Addr) (c3 : Nat) (W : World) (hW : Below w1.heap.size w1 W) (hr : Nds W W.heap.size A3 (plR l l.length)) => (show Calls Tryz.prog 20 #[.agg #[.int .i64 P, .slice A ss.length c, .slice A3 (plR l l.length).length c3, .bool (decide (d ≤ 2))], .agg #[.int .i64 d, .int .i64 wd]] W fun e w' => ∃ v, e = .returned v ∧ w'.ownsRow w.heap.size 44 15 v (layR P ss l d wd).length (flatB (layR P ss l d wd)) ∧ Below W.heap.size W w' from by
    obtain ⟨h1, h2⟩ := beg_ok h
    have hp := page_ok h2
    have hl : layR P ss l d wd = layBx ss (plR l l.length) (decide (d ≤ 2)) d wd := if_pos h
    rw [hl]
    refine (boxes_any P ss (plR l l.length) (decide (d ≤ 2)) (pln_of h1) hN hv d wd hp.1.1 hp.1.2 (by omega) hp.2.2 A A3 c c3 W ((rs.below (hb1.trans (hW.mono hb1.size))).more (Nat.le_trans hb1.size hW.size)) hr).mono fun e w' ⟨v, e1, e2, e3⟩ => ⟨v, e1, own_down e2 (Nat.le_trans hb1.size hW.size), e3⟩)
  have hlr : begE P ss l d wd ≠ 0 → layR P ss l d wd = [] := fun h => if_neg h
  have HLR := hid hlr
  clear hlr
  have HPO := hid fun (e : Ending) (w' : World) (v : Value) (h1 : e = Ending.returned (.tuple #[v, .int .i64 (begE P ss l d wd)])) (h2 : w'.ownsRow w.heap.size 44 15 v (layR P ss l d wd).length (flatB (layR P ss l d wd))) (h3 : Below w.heap.size w w') => (show LayPost P ss l d wd w e w' from ⟨v, h1, h2, h3⟩)
  obtain ⟨Q, hQ⟩ : ∃ Q, Q = LayPost P ss l d wd w := ⟨_, rfl⟩
  have hQe : ∀ e w', LayPost P ss l d wd w e w' = Q e w' := fun e w' => by rw [hQ]
  simp only [hQe] at HPO
  rw [← hQ]
  clear hQe hQ
  generalize layR P ss l d wd = B at *
  unfold BegPost at HBE
  generalize begE P ss l d wd = E at *
  have HW1 := hid hw1; have HB1 := hid hb1; have HZ1 := hid hz1
  clear hw1 hb1 hz1 g0 g1 g2 rs rn hN hv hn
  generalize plR l l.length = L at *
  generalize l.length = n at *
  generalize ss.length = N at *
  go_enter Tryz.func9, Tryz.ntmps9
  go_upto_region 1 with (fail)
  rw [← HW1.out]
  clear HW1
  obtain ⟨B0, hB0⟩ : ∃ B0, B0 = w.heap.size := ⟨_, rfl⟩
  obtain ⟨B1, hB1⟩ : ∃ B1, B1 = B0 + 1 := ⟨_, rfl⟩
  obtain ⟨B2, hB2⟩ : ∃ B2, B2 = B0 + 2 := ⟨_, rfl⟩
  have hB2' : B0 + 1 + 1 = B2 := by omega
  rw [← hB0] at HC c0 c1 c2' HZ1
  rw [← hB1] at c2'
  rw [← hB2] at HC
  rw [← hB0]
  try rw [hB2']
  try rw [← hB1]
  have HB0 := hid hB0; have HBB := hid hB1; have HBC := hid hB2
  clear hB0 hB1 hB2 hB2'
  obtain ⟨p2, p3⟩ := HC.out w1 (Below.refl _ _)
  go_upto_region 2 with (first | (go_at_call 19; refine HBE.out.mono ?_; rintro e w2 ⟨hb2, ⟨hE, rfl⟩ | ⟨rfl, A3, c3, rfl, hr⟩⟩))
  · have HB2 := hid hb2
    have e1 : (E != 0) = true := by simpa using hE
    have HL := hid (HLR.out hE)
    clear hb2 hE c0 c1 c2' p2 p3 HBX HBE
    go_wp2_with fail
    exact HPO.out _ _ (.slice none 0 0) rfl (by rw [HL.out]; exact World.ownsRow_nil _ _ _ _) ((HB1.out.trans (HB2.out.mono HB1.out.size)).alloc (by have := HB1.out.size; have := HB2.out.size; omega) _)
  · have HB2 := hid hb2
    have hb3 : Below w1.heap.size w1 (w2.alloc (.cells #[.int .i64 P, .slice A N c, .slice A3 L.length c3, .bool (decide (d ≤ 2))] 69)) := hb2.alloc hb2.size _
    obtain ⟨p2', p3'⟩ := HC.out _ hb3
    have HX := hid (HBX.out trivial A3 c3 _ hb3 (Nds.more (Nds.below hr ((Below.refl _ _).alloc (Nat.le_refl _) _)) (by simp)))
    have HB3 := hid hb3
    clear hb2 hb3 hr c0 c1 c2' p2 p3 HBX HBE HLR
    go_wp2_with (first | (go_at_call 20; refine HX.out.mono ?_; rintro e w4 ⟨v4, rfl, ho4, hb4⟩; have HO4 := hid ho4; have HB4 := hid (bnext0 HB3.out hb4); clear ho4 hb4 p2' p3'))
    exact HPO.out _ _ v4 rfl HO4.out (HB1.out.trans (HB4.out.mono HB1.out.size))
end Go.Proofs.YtimblabaeclhpaaGreat
