/- ostraconref02.Plain. -/
import Derived.Test.YtfkcpcdndleboaaLayE
import Derived.Test.YtfkcpcdndleboaaChk1
namespace Go.Proofs.Ytfkcpcdndleboaa
open Go.RowKit Go.Shelf
set_option maxRecDepth 100000 in
set_option maxHeartbeats 8000000 in
theorem refPlain_any (P : Int) (ss : List Sg) (l : List Nd) (hN : ss.length ≤ 1000000) (hv : ∀ s ∈ ss, s.vals.length ≤ 1000000) (hn : l.length ≤ 1000000) (A A2 : Option Addr) (c c2 : Nat) (w : World) (rs : Sgs w w.heap.size A ss) (rn : Nds w w.heap.size A2 l) :
    Calls Try.prog 20 #[.agg #[.int .i64 P, .slice A ss.length c], .agg #[.slice A2 l.length c2]] w (TxtPost (chkE P ss l) (plnL P ss l) w) := by
  obtain ⟨w1, hw1⟩ : ∃ w1, w1 = ((w.alloc (.cells #[.int .i64 P, .slice A ss.length c] 24)).alloc (.cells #[.slice A2 l.length c2] 27)).alloc (.cells #[.slice none 0 0] 27) := ⟨_, rfl⟩
  have hb1 : Below w.heap.size w w1 := by rw [hw1]; exact (((Below.refl _ _).alloc (Nat.le_refl _) _).alloc (by simp) _).alloc (by simp; omega) _
  have hz1 : w1.heap.size = w.heap.size + 3 := by rw [hw1]; simp
  have c0 : w1.cell? ⟨w.heap.size, 0, none⟩ = some (.int .i64 P) := by rw [hw1]; exact cell_old (cell_old (cell_here rfl rfl))
  have c1 : w1.cell? ⟨w.heap.size, 1, none⟩ = some (.slice A ss.length c) := by rw [hw1]; exact cell_old (cell_old (cell_here rfl rfl))
  have c3 : w1.cell? ⟨w.heap.size + 1, 0, none⟩ = some (.slice A2 l.length c2) := by rw [hw1]; exact cell_old (cell_here (by simp) rfl)
  have c4 : w1.cell? ⟨w.heap.size + 2, 0, none⟩ = some (.slice none 0 0) := by rw [hw1]; exact cell_here (by simp) rfl
  have z4 : w1.frozen? ⟨w.heap.size + 2, 0, none⟩ = false := by rw [hw1]; exact free_here (by simp)
  have HCK := hid (refCheck_any P ss l hN hv hn A A2 c c2 w1 ((rs.below hb1).more (by omega)) ((rn.below hb1).more (by omega)))
  have HGD := hid fun (h : chkE P ss l = 0) => (good_of (chkE_zero h).2.2.1).deps
  have HON := hid fun (h : chkE P ss l = 0) (k : Nat) (hk : k < l.length) (h7 : kd l k = 7) => hon_dep h hk h7
  have m1 := plnL_bad (P := P) (ss := ss) (l := l); have m2 := plnL_ok (P := P) (ss := ss) (l := l)
  generalize plnL P ss l = L at m1 m2 ⊢
  generalize chkE P ss l = CE at HCK m1 m2 HGD HON
  have M1 := hid m1; have M2 := hid m2
  clear m1 m2
  obtain ⟨N, hNN⟩ : ∃ N, N = ss.length := ⟨_, rfl⟩
  rw [← hNN] at HCK c1 hw1 hN ⊢
  obtain ⟨n, hnn⟩ : ∃ n, n = l.length := ⟨_, rfl⟩
  rw [← hnn] at HCK c3 hw1 hn HGD HON ⊢
  try rw [← hnn] at M2
  have HW1 := hid hw1; have HB1 := hid hb1; have HR := hid rn; have HRS := hid rs; have HNN := hid hnn; have HNS := hid hNN
  have hzz : w.heap.size + 1 < w1.heap.size := by omega
  have hzy : w.heap.size + 2 < w1.heap.size := by omega
  have hzx : w.heap.size < w1.heap.size := by omega
  have HC1 := hid fun (wr : World) (h : Below w1.heap.size w1 wr) => (h.cell (p := ⟨w.heap.size, 1, none⟩) hzx).trans c1
  have HC3 := hid fun (wr : World) (h : Below w1.heap.size w1 wr) => (h.cell (p := ⟨w.heap.size + 1, 0, none⟩) hzz).trans c3
  have HC4 := hid fun (wr : World) (h : Below w1.heap.size w1 wr) => (h.cell (p := ⟨w.heap.size + 2, 0, none⟩) hzy).trans c4
  have HZ4 := hid fun (wr : World) (h : Below w1.heap.size w1 wr) => (h.frozen (p := ⟨w.heap.size + 2, 0, none⟩) hzy).trans z4
  have HW : Hid (∀ wr, Below w1.heap.size w1 wr → Below w.heap.size w wr) := fun wr h => hb1.trans (h.mono (by omega))
  clear hw1 hb1 hz1 rs rn hv hnn hNN
  go_enter Try.func20, Try.ntmps20
  go_upto_region 1 with (fail)
  simp only [Nat.add_assoc, Nat.reduceAdd]
  rw [← HW1.out]
  clear HW1
  obtain ⟨B0, hB0⟩ : ∃ B0, B0 = w.heap.size := ⟨_, rfl⟩
  obtain ⟨B1, hB1⟩ : ∃ B1, B1 = B0 + 1 := ⟨_, rfl⟩
  obtain ⟨B2, hB2⟩ : ∃ B2, B2 = B0 + 2 := ⟨_, rfl⟩
  rw [← hB0, ← hB1] at c3 HC3 hzz
  rw [← hB0, ← hB2] at c4 z4 HC4 HZ4 hzy
  rw [← hB0] at c0 c1 HC1 hzx
  have HB0 := hid hB0
  rw [← hB0, ← hB1, ← hB2]
  have hlt : w.heap.size ≤ B2 := by omega
  have hb0 : B0 < B1 := by omega
  have hb2 : B1 < B2 := by omega
  clear hB1 hB2 hB0
  by_cases hCE : CE = 0
  · have f0 : (CE != 0) = false := by simp [hCE]
    have x2 := M2.out hCE
    replace HGD := hid (HGD.out hCE)
    replace HON := hid (HON.out hCE)
    have X2 := hid x2
    clear M1 M2 x2
    subst hCE
    go_wp2_with (first | (go_at_call 18; refine HCK.out.mono ?_; rintro e w2 ⟨rfl, hb2'⟩; have p1 := HC1.out w2 hb2'; have p3 := HC3.out w2 hb2'; have p3a := fun X => HC3.out (w2.alloc X) (hb2'.alloc hb2'.size X); have HB2 := hid hb2'; clear hb2' HCK c0 c1 c3 c4 z4))
    obtain ⟨B, hB⟩ : ∃ B, B = w2.heap.size := ⟨_, rfl⟩
    have hOS := OutT.start hB
    have hZ2 := HB2.out.size
    rw [← hB] at hZ2 ⊢
    have HOS := hid hOS
    have HBb := hid hB
    clear hB hOS p3 p1 p3a
    go_loopw [8, 9] (fun lv kv wr => ∃ (k : Nat) (x : Bool) (v : Value), k ≤ n ∧ kv = .int .i64 k ∧ lv = .bool x ∧ Hid (x = inH l k) ∧ Hid (OutT B w2 (plR l k) v wr)) (fun _ kv _ => n - (intOf kv).toNat)
    case atStart => exact ⟨0, false, .slice none 0 0, by omega, rfl, rfl, hid rfl, HOS⟩
    case round =>
      obtain ⟨k, x, v, hk, rfl, rfl, hle, hO⟩ := hrel
      have hbw : Below w1.heap.size w1 wr := HB2.out.trans (hO.out.bel.mono hZ2)
      obtain ⟨A5, c5, rfl⟩ := own_slice hO.out.own
      have hoc := hO.out.cell
      have pm0 := hoc.1; have zm0 := hoc.2.1; have hBw := hoc.2.2
      clear hoc
      have q3 := HC3.out wr hbw
      by_cases hkn : k < n
      · have hkl : k < l.length := by rw [← HNN.out]; exact hkn
        obtain ⟨b, o, rfl, hbB, hc⟩ := HR.out.at (by omega)
        have hx := (hc k hkl).below (HW.out _ hbw) hbB
        have hdp := HGD.out k hkn
        have hst := plR_skip (l := l) (k := k); have hsa := plR_add (l := l) (k := k)
        have hi1 : inH l (k + 1) = if dep l k = 0 then false else if kd l k = 7 then true else inH l k := rfl
        rw [nd_at hkl] at hsa
        rw [kd_at hkl, dep_at hkl] at hst hsa hi1
        rw [dep_at hkl] at hdp
        have hon := HON.out k hkn
        rw [kd_at hkl, dep_at hkl] at hon
        have hll := plR_len l k
        obtain ⟨m, hm⟩ : ∃ m, m = (plR l k).length := ⟨_, rfl⟩
        rw [← hm] at pm0 hll
        have HM := hid hm
        have hle3 := hle.out
        generalize l[k]'hkl = nd0 at hx hst hsa hi1 hdp hon
        obtain ⟨kk, dp, sg, tn, mi, st, mn, mx⟩ := nd0
        have d1 := hx.kind; have d2 := hx.depth; have d3 := hx.sign; have d4 := hx.turn; have d5 := hx.mir; have d6 := hx.state; have d7 := hx.mn; have d8 := hx.mx
        simp only [] at d1 d2 d3 d4 d5 d6 d7 d8 hst hsa hi1 hdp hon
        have hdp1 := hdp.1; have hdp2 := hdp.2
        have g0 : (k : Int) < (n : Int) := by omega
        have hOq := hO.out
        rw [← hm] at hOq
        have HOO := hid hOq
        have HNX := hid fun (W3 : World) (hb : Below wr.heap.size wr W3) (ys : List Value) (nd1 : Nd) (hy : ys = nd1.cells) (v4 : Value) (w4 : World) (ho4 : w4.ownsRow (B + 1) 49 8 v4 (m + 1) (flatN (plR l k) ++ ys)) (hg4 : W3.grownBy w4 (Value.slice A5 m c5).ownBlock) => OutT.step (n := m) HOO.out hb HM.out hy ho4 hg4
        have HOW := hid fun (W3 : World) (hb : Below wr.heap.size wr W3) => (show W3.ownsRow (B + 1) 49 8 (.slice A5 m c5) m (flatN (plR l k)) from by have := own_keep HOO.out.own hb; rw [← HM.out] at this; exact this)
        have HOB := hid fun (X : Obj) => HOO.out.below ((Below.refl wr.heap.size wr).alloc (Nat.le_refl _) X)
        have HBA := hid fun (X Y : Obj) => ((Below.refl wr.heap.size wr).alloc (Nat.le_refl _) X).alloc (by simp) Y
        have hBA := hid (show B + 1 ≤ wr.heap.size from hBw)
        clear hx hc hdp hO hOq hle hm hbw
        by_cases hd : dp = 0
        · subst hd
          have hi2 : inH l (k + 1) = false := hi1
          rw [hi2] at hsa
          replace hsa := hsa (fun h => h.1 rfl)
          by_cases h7 : kk = 7
          · subst h7
            have HSA : Hid (plR l (k + 1) = plR l k ++ [⟨2, 0, sg, tn, mi, st, mn, mx⟩]) := hid hsa
            have HLE : Hid (false = inH l (k + 1)) := hid hi2.symm
            clear hst hsa hi1 hi2 hle3 hon
            go_wp2_with (first | (at_builtin; refine app_elem rfl (.tmp 52) (.tmp 54) Try.underlying25 Try.infoNode rfl (by decide) (by decide) rfl (B + 1) _ m (flatN (plR l k)) rfl (HOW.out _ (HBA.out _ _)) ⟨wr.heap.size + 1, 0, none⟩ [.int .i64 2, .int .i64 0, .int .i64 sg, .int .i64 tn, .bool mi, .int .i64 st, .int .i64 mn, .int .i64 mx] rfl rfl (cell_news_at _ _ _ (by simp)) (fun u hu => flatN_one (l := [⟨2, 0, sg, tn, mi, st, mn, mx⟩]) (by rw [flatN_sing]; exact hu)) (by omega) (Nat.le_trans hBA.out (HBA.out _ _).size) ?_; intro v4 w4 ho4 hg4; obtain ⟨p9, z9, ho9⟩ := HNX.out _ (HBA.out _ _) _ ⟨2, 0, sg, tn, mi, st, mn, mx⟩ rfl v4 w4 ho4 hg4; obtain ⟨A9, c9, rfl⟩ := own_slice ho4; have HO9 := hid ho9; clear ho4 hg4 ho9))
            go_roundw
            case rel => exact ⟨k + 1, false, _, by omega, by go_num, rfl, HLE, by rw [HSA.out]; exact HO9⟩
            case measure => simp [intOf]; omega
          · have f7 : (kk == 7) = false := by simp [h7]
            have HSA : Hid (plR l (k + 1) = plR l k ++ [⟨kk, 0, sg, tn, mi, st, mn, mx⟩]) := by refine hid ?_; rw [hsa]; simp [lowN, h7]
            have HLE : Hid (false = inH l (k + 1)) := hid hi2.symm
            clear hst hsa hi1 hi2 hle3 h7 hon
            go_wp2_with (first | (at_builtin; refine app_elem rfl (.tmp 52) (.tmp 54) Try.underlying25 Try.infoNode rfl (by decide) (by decide) rfl (B + 1) _ m (flatN (plR l k)) rfl (HOW.out _ (HBA.out _ _)) ⟨wr.heap.size + 1, 0, none⟩ [.int .i64 kk, .int .i64 0, .int .i64 sg, .int .i64 tn, .bool mi, .int .i64 st, .int .i64 mn, .int .i64 mx] rfl rfl (cell_news_at _ _ _ (by simp)) (fun u hu => flatN_one (l := [⟨kk, 0, sg, tn, mi, st, mn, mx⟩]) (by rw [flatN_sing]; exact hu)) (by omega) (Nat.le_trans hBA.out (HBA.out _ _).size) ?_; intro v4 w4 ho4 hg4; obtain ⟨p9, z9, ho9⟩ := HNX.out _ (HBA.out _ _) _ ⟨kk, 0, sg, tn, mi, st, mn, mx⟩ rfl v4 w4 ho4 hg4; obtain ⟨A9, c9, rfl⟩ := own_slice ho4; have HO9 := hid ho9; clear ho4 hg4 ho9))
            go_roundw
            case rel => exact ⟨k + 1, false, _, by omega, by go_num, rfl, HLE, by rw [HSA.out]; exact HO9⟩
            case measure => simp [intOf]; omega
        · have fd : (dp == 0) = false := by simp [hd]
          rw [if_neg hd] at hi1
          by_cases h7 : kk = 7
          · rw [if_pos h7] at hi1
            have HSA := hid (hst hd h7)
            have HLE : Hid (true = inH l (k + 1)) := hid hi1.symm
            obtain rfl : dp = 1 := (hon h7).resolve_left hd
            subst h7
            clear hst hsa hi1 hle3 hd HNX HOW HBA hon
            go_wp2_with fail
            go_roundw
            case rel => exact ⟨k + 1, true, _, by omega, by go_num, rfl, HLE, by rw [HSA.out]; exact hid (HOB.out _)⟩
            case measure => simp [intOf]; omega
          · rw [if_neg h7, ← hle3] at hi1
            have f7 : (kk == 7) = false := by simp [h7]
            have HLE : Hid (x = inH l (k + 1)) := hid hi1.symm
            rw [hi1] at hsa
            cases x with
            | true =>
              have HSA : Hid (plR l (k + 1) = plR l k ++ [⟨kk, dp - 1, sg, tn, mi, st, mn, mx⟩]) := by refine hid ?_; rw [hsa (fun h => h7 h.2)]; simp [lowN, h7]
              clear hst hsa hi1 hle3 h7 hd hon
              go_wp2_with (first | (at_builtin; refine app_elem rfl (.tmp 52) (.tmp 54) Try.underlying25 Try.infoNode rfl (by decide) (by decide) rfl (B + 1) _ m (flatN (plR l k)) rfl (HOW.out _ (HBA.out _ _)) ⟨wr.heap.size + 1, 0, none⟩ [.int .i64 kk, .int .i64 (dp - 1), .int .i64 sg, .int .i64 tn, .bool mi, .int .i64 st, .int .i64 mn, .int .i64 mx] rfl rfl (cell_news_at _ _ _ (by simp)) (fun u hu => flatN_one (l := [⟨kk, (dp - 1), sg, tn, mi, st, mn, mx⟩]) (by rw [flatN_sing]; exact hu)) (by omega) (Nat.le_trans hBA.out (HBA.out _ _).size) ?_; intro v4 w4 ho4 hg4; obtain ⟨p9, z9, ho9⟩ := HNX.out _ (HBA.out _ _) _ ⟨kk, (dp - 1), sg, tn, mi, st, mn, mx⟩ rfl v4 w4 ho4 hg4; obtain ⟨A9, c9, rfl⟩ := own_slice ho4; have HO9 := hid ho9; clear ho4 hg4 ho9))
              go_roundw
              case rel => exact ⟨k + 1, true, _, by omega, by go_num, rfl, HLE, by rw [HSA.out]; exact HO9⟩
              case measure => simp [intOf]; omega
            | false =>
              have HSA : Hid (plR l (k + 1) = plR l k ++ [⟨kk, dp, sg, tn, mi, st, mn, mx⟩]) := by refine hid ?_; rw [hsa (fun h => h7 h.2)]; simp [lowN, h7]
              clear hst hsa hi1 hle3 h7 hd hon
              go_wp2_with (first | (at_builtin; refine app_elem rfl (.tmp 52) (.tmp 54) Try.underlying25 Try.infoNode rfl (by decide) (by decide) rfl (B + 1) _ m (flatN (plR l k)) rfl (HOW.out _ (HBA.out _ _)) ⟨wr.heap.size + 1, 0, none⟩ [.int .i64 kk, .int .i64 dp, .int .i64 sg, .int .i64 tn, .bool mi, .int .i64 st, .int .i64 mn, .int .i64 mx] rfl rfl (cell_news_at _ _ _ (by simp)) (fun u hu => flatN_one (l := [⟨kk, dp, sg, tn, mi, st, mn, mx⟩]) (by rw [flatN_sing]; exact hu)) (by omega) (Nat.le_trans hBA.out (HBA.out _ _).size) ?_; intro v4 w4 ho4 hg4; obtain ⟨p9, z9, ho9⟩ := HNX.out _ (HBA.out _ _) _ ⟨kk, dp, sg, tn, mi, st, mn, mx⟩ rfl v4 w4 ho4 hg4; obtain ⟨A9, c9, rfl⟩ := own_slice ho4; have HO9 := hid ho9; clear ho4 hg4 ho9))
              go_roundw
              case rel => exact ⟨k + 1, false, _, by omega, by go_num, rfl, HLE, by rw [HSA.out]; exact HO9⟩
              case measure => simp [intOf]; omega
      · obtain rfl : n = k := by omega
        have g0 : decide (n < n) = false := by simp
        have p4 := HC4.out wr hbw; have z4 := HZ4.out wr hbw
        have HO := hid hO.out; have HBW := hid hbw
        have HXX : Hid (L = plR l n) := by rw [X2.out, HNN.out]; exact hid rfl
        clear hO hle hbw
        generalize plR l n = D at pm0 HO HXX
        obtain ⟨m, hm⟩ : ∃ m, m = D.length := ⟨_, rfl⟩
        have hO2 := HO.out
        rw [← hm] at pm0 hO2
        replace HO := hid hO2
        have HM := hid hm
        clear hm hO2
        go_wp2_with fail
        have hq := World.cell?_setCell_same _ _ (.slice A5 m c5) p4
        exact bodyPost_ret (v := .tuple #[.agg #[.slice A5 m c5], .int .i64 0]) (by simp [results, Try.results20, go_sem, hq]) rfl ⟨.slice A5 m c5, rfl, by rw [HXX.out, ← HM.out]; have h9 := HO.out.own; rw [← HM.out] at h9; exact own_base (ownsRow_setCell_other h9 (a := ⟨B2, 0, none⟩) (fun he => by have := (h9.lt _ he).1; simp at this <;> omega) _) (by omega), (HW.out _ HBW.out).setCell hlt _⟩
  · have f0 : (CE != 0) = true := by simp [hCE]
    have x2 := M1.out hCE
    have X2 := hid x2
    clear x2
    clear M1 M2 hCE
    go_wp2_with (first | (go_at_call 18; refine HCK.out.mono ?_; rintro e w2 ⟨rfl, hb2'⟩; have p4 := HC4.out w2 hb2'; have q4 := HZ4.out w2 hb2'; have HB2 := hid hb2'; clear hb2' HCK c0 c1 c3 c4 z4))
    have hq := World.cell?_setCell_same _ _ (.slice none 0 0) p4
    exact bodyPost_ret (v := .tuple #[.agg #[.slice none 0 0], .int .i64 CE]) (by simp [results, Try.results20, go_sem, hq]) rfl ⟨.slice none 0 0, rfl, by rw [X2.out]; exact World.ownsRow_nil _ _ _ _, (HW.out _ HB2.out).setCell hlt _⟩
end Go.Proofs.Ytfkcpcdndleboaa
