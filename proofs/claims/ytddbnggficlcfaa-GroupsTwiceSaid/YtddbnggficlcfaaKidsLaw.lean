/- ostraconlaw01.SameInts. -/
import Derived.Test.YtddbnggficlcfaaSameT
import Derived.Test.YtddbnggficlcfaaArgs
import Derived.Test.YtddbnggficlcfaaKidsE
namespace Go.Proofs.Ytddbnggficlcfaa
open Go.RowKit
theorem ints_eq {a b : List Int} (hl : a.length = b.length) (h : ∀ i, i < a.length → nth a i = nth b i) : a = b := by
  refine List.ext_getElem hl fun i ha hb => ?_
  have := h i ha
  unfold nth at this
  rw [List.getD_eq_getElem?_getD, List.getD_eq_getElem?_getD, List.getElem?_eq_getElem ha, List.getElem?_eq_getElem hb] at this
  exact this
set_option maxRecDepth 100000 in
set_option maxHeartbeats 2000000 in
theorem sameInts_any (a b : List Int) (Aa Ab : Option Addr) (ca cb : Nat) (ha : a.length ≤ 1000000) (_hb : b.length ≤ 1000000) (w : World) (B : Nat) (ra : Rd w B Aa a) (rb : Rd w B Ab b) :
    Calls Try.prog 27 #[.slice Aa a.length ca, .slice Ab b.length cb] w (BoolIs (a = b) w) := by
  have RA := hid ra; have RB := hid rb
  obtain ⟨n, hn⟩ : ∃ n, n = a.length := ⟨_, rfl⟩
  obtain ⟨m, hm⟩ : ∃ m, m = b.length := ⟨_, rfl⟩
  have HEQ := hid (fun (h1 : n = m) (h2 : ∀ i, i < n → nth a i = nth b i) => ints_eq (a := a) (b := b) (by omega) (by rw [← hn]; exact h2))
  have HNE := hid (fun (h1 : n ≠ m) (h2 : a = b) => h1 (by rw [hn, hm, h2]))
  have HNI := hid (fun (i : Nat) (h1 : nth a i ≠ nth b i) (h2 : a = b) => h1 (by rw [h2]))
  rw [← hn] at ha ⊢
  rw [← hm] at _hb ⊢
  have HN := hid hn; have HM := hid hm
  have HBW : Hid (∀ q, Below w.heap.size w (w.drewN q)) := fun q => below_drewN (Below.refl _ _) q
  clear hn hm ra rb
  go_enter Try.func27, Try.ntmps27
  by_cases hnm : n = m
  · have f0 : ((n : Int) != (m : Int)) = false := by simp [hnm]
    have f1 : (n != m) = false := by simp [hnm]
    have HQ := hid (HEQ.out hnm)
    have hnm2 := hid hnm
    clear HNE HEQ hnm
    go_wp2_with fail
    go_loopw [5] (fun kv wr => ∃ k : Nat, k ≤ n ∧ kv = .int .i64 k ∧ Hid (∀ i, i < k → nth a i = nth b i) ∧ ∃ q, wr = w.drewN q) (fun kv _ => n - (intOf kv).toNat)
    case atStart => exact ⟨0, by omega, rfl, hid (fun i h => by omega), 0, rfl⟩
    case round =>
      obtain ⟨k, hk, rfl, hP, q, rfl⟩ := hrel
      by_cases hkn : k < n
      · have hq1 : (k : Int) < (n : Int) := by omega
        have hq2 : (k : Int) < (m : Int) := by rw [← hnm2.out]; exact hq1
        obtain ⟨b1, o1, rfl, _, hc1⟩ := RA.out.at (by rw [← HN.out]; omega)
        obtain ⟨b2, o2, rfl, _, hc2⟩ := RB.out.at (by rw [← HM.out, ← hnm2.out]; omega)
        have d1 := hc1 k (by rw [← HN.out]; exact hkn)
        have e1 := hc2 k (by rw [← HM.out, ← hnm2.out]; exact hkn)
        have hno := HNI.out k
        have hyes : nth a k = nth b k → ∀ i, i < k + 1 → nth a i = nth b i := fun h i hi => by
          rcases Nat.eq_or_lt_of_le (Nat.le_of_lt_succ hi) with rfl | h3
          · exact h
          · exact hP.out i h3
        generalize nth a k = x at d1 hno hyes
        generalize nth b k = y at e1 hno hyes
        have HY := hid hyes; have HN2 := hid hno
        clear hc1 hc2 hno hyes hP
        by_cases hxy : x = y
        · have HX := hid (HY.out hxy)
          have f2 : (x != y) = false := by simp [hxy]
          clear HY HN2 hxy
          go_wp2_with fail
          go_quiet (fail)
          go_wp2_with fail
          go_roundw
          case rel => exact ⟨k + 1, by omega, by go_num, HX.out, _, by first | rfl | exact World.drewN_drewN _ _ _⟩
          case measure => simp [intOf]; omega
        · have HX := hid (HN2.out hxy)
          have f2 : (x != y) = true := by simp [hxy]
          clear HY HN2 hxy
          go_wp2_with fail
          go_quiet (fail)
          go_wp2_with fail
          go_ret
          exact ⟨⟨_, rfl, iff_of_false (by simp) HX.out⟩, by first | exact HBW.out _ | (rw [World.drewN_drewN]; exact HBW.out _)⟩
      · obtain rfl : k = n := by omega
        have HX := hid (HQ.out fun i hi => hP.out i hi)
        clear hP
        go_wp2_with fail
        go_ret
        exact ⟨⟨_, rfl, iff_of_true (by simp) HX.out⟩, HBW.out _⟩
  · have HX := hid (HNE.out hnm)
    have f0 : ((n : Int) != (m : Int)) = true := by rw [bne_iff_ne]; omega
    have f1 : (n != m) = true := by rw [bne_iff_ne]; exact hnm
    clear hnm
    go_wp2_with fail
    all_goals first | (go_ret; exact ⟨⟨_, rfl, iff_of_false (by simp) HX.out⟩, HBW.out 0⟩) | (exfalso; omega)
end Go.Proofs.Ytddbnggficlcfaa

/- WALK: the law GroupsKids. -/
namespace Go.Proofs.Ytddbnggficlcfaa
open Go.RowKit
theorem ints_out {E : Int} {L : List Int} {W : World} {e : Ending} {w' : World} (hp : IntsPost E L W e w') : ∃ (A' : Option Addr) (c' : Nat), e = .returned (.tuple #[.slice A' L.length c', .int .i64 E]) ∧ Rd w' w'.heap.size A' L ∧ Below W.heap.size W w' := by
  obtain ⟨v, rfl, ho, hb⟩ := hp
  obtain ⟨A', c', rfl⟩ := own_slice ho
  exact ⟨A', c', rfl, Reads.of_own ho, hb⟩
theorem ints_same {w : World} {L : List Int} {A B : Option Addr} (n : Nat) (hn : n = L.length) (h : n ≤ 1000000) (c d : Nat) (ra : Rd w w.heap.size A L) (rb : Rd w w.heap.size B L) : Calls Try.prog 27 #[.slice A n c, .slice B n d] w fun e w' => e = .returned (.bool true) ∧ Below w.heap.size w w' := by
  subst hn
  exact (sameInts_any L L A B c d h h w w.heap.size ra rb).mono fun e w' hb => hb.get (iff_of_true rfl rfl)
theorem kidE_core {P : Int} {ss ss' : List Sg} (h : ss'.map Sg.core = ss.map Sg.core) (l : List Nd) (node : Int) : kidE P ss' l node = kidE P ss l node ∧ kidL P ss' l node = kidL P ss l node := by
  have h1 : kidE P ss' l node = kidE P ss l node := by unfold kidE; rw [chkE_core h]
  exact ⟨h1, by unfold kidL; rw [h1]⟩
theorem grpL_core {P : Int} {ss ss' : List Sg} (h : ss'.map Sg.core = ss.map Sg.core) (l : List Nd) : grpL P ss' l = grpL P ss l := by unfold grpL; rw [chkE_core h]
theorem kidL_len {P : Int} {ss : List Sg} {l : List Nd} {node : Int} : (kidL P ss l node).length ≤ l.length := by
  by_cases h : chkE P ss l = 0
  · by_cases h2 : node < 0 ∨ (l.length : Int) ≤ node
    · rw [(kidE_arg h h2).2]; simp
    · rw [(kidE_ok h h2).2, nz_len]; exact kidsOf_len (by omega)
  · rw [(kidE_bad h).2]; simp
theorem grpL_len {P : Int} {ss : List Sg} {l : List Nd} : (grpL P ss l).length ≤ l.length := by
  unfold grpL
  split
  · rw [nz_len]; exact kidsOf_len (by omega)
  · simp
set_option maxRecDepth 100000 in
set_option maxHeartbeats 8000000 in
theorem kids_law (P : Int) (ss : List Sg) (l : List Nd) (node : Int) (A A2 : Option Addr) (c c2 : Nat) (hl : ss.length ≤ 9223372036854775807) (hv : ∀ s ∈ ss, s.vals.length ≤ 9223372036854775807) (hnode : -9223372036854775808 ≤ node) (w : World) (rs : Sgs w w.heap.size A ss) (rn : Nds w w.heap.size A2 l) :
    Calls Try.prog 4 #[.agg #[.int .i64 P, .slice A ss.length c, .slice A2 l.length c2], .int .i64 node] w fun e w' => e = .returned (.bool true) ∧ Below w.heap.size w w' := by
  obtain ⟨r1, hr1⟩ : ∃ x : Bool, (x = true ↔ BigP ss l) := by
    by_cases h : BigP ss l
    · exact ⟨true, iff_of_true rfl h⟩
    · exact ⟨false, iff_of_false (by simp) h⟩
  have hsm := fun h : ¬ BigP ss l => small_of h
  obtain ⟨w1, hw1⟩ : ∃ w1, w1 = w.alloc (.cells #[.int .i64 P, .slice A ss.length c, .slice A2 l.length c2] 29) := ⟨_, rfl⟩
  have hb1 : Below w.heap.size w w1 := by rw [hw1]; exact (Below.refl _ _).alloc (Nat.le_refl _) _
  have hz1 : w.heap.size < w1.heap.size := by rw [hw1]; simp
  have c0 : w1.cell? ⟨w.heap.size, 0, none⟩ = some (.int .i64 P) := by rw [hw1]; exact cell_here rfl rfl
  have c1 : w1.cell? ⟨w.heap.size, 1, none⟩ = some (.slice A ss.length c) := by rw [hw1]; exact cell_here rfl rfl
  have c3 : w1.cell? ⟨w.heap.size, 2, none⟩ = some (.slice A2 l.length c2) := by rw [hw1]; exact cell_here rfl rfl
  have HBG := hid ((bigP_any P ss l A A2 c c2 hl hv w1 ((rs.below hb1).more hb1.size)).mono fun e w' hb => hb.get hr1)
  have hF1 := fun (s1 : ss.length ≤ 30) (s2 : l.length ≤ 210) (s3 : ∀ s ∈ ss, s.vals.length ≤ 20) (ss' : List Sg) (A3 A4 : Option Addr) (c3 c4 : Nat) (W : World) (hp : Copies ss l ss' A3 A4 c3 c4 W) (h : Below w1.heap.size w1 W) =>
    (by have := kidsE_any P ss' l node (by rw [hp.len]; omega) (hp.vals s3) (by omega) A3 A4 c3 c4 W hp.sg hp.nd hnode; rw [(kidE_core hp.core l node).1, (kidE_core hp.core l node).2] at this; exact this.mono fun e w' hx => ints_out hx : Calls Try.prog 23 #[.agg #[.int .i64 P, .slice A3 ss'.length c3], .agg #[.slice A4 l.length c4], .int .i64 node] W fun e w' => ∃ (A' : Option Addr) (c' : Nat), e = .returned (.tuple #[.slice A' (kidL P ss l node).length c', .int .i64 (kidE P ss l node)]) ∧ Rd w' w'.heap.size A' (kidL P ss l node) ∧ Below W.heap.size W w')
  have hF2 := fun (s1 : ss.length ≤ 30) (s2 : l.length ≤ 210) (s3 : ∀ s ∈ ss, s.vals.length ≤ 20) (ss' : List Sg) (A3 A4 : Option Addr) (c3 c4 : Nat) (W : World) (hp : Copies ss l ss' A3 A4 c3 c4 W) (h : Below w1.heap.size w1 W) =>
    (by have := groupsE_any P ss' l (by rw [hp.len]; omega) (hp.vals s3) (by omega) A3 A4 c3 c4 W hp.sg hp.nd; rw [chkE_core hp.core l, grpL_core hp.core l] at this; exact this.mono fun e w' hx => ints_out hx : Calls Try.prog 25 #[.agg #[.int .i64 P, .slice A3 ss'.length c3], .agg #[.slice A4 l.length c4]] W fun e w' => ∃ (A' : Option Addr) (c' : Nat), e = .returned (.tuple #[.slice A' (grpL P ss l).length c', .int .i64 (chkE P ss l)]) ∧ Rd w' w'.heap.size A' (grpL P ss l) ∧ Below W.heap.size W w')
  have hG1 := fun (s1 : ss.length ≤ 30) (s2 : l.length ≤ 210) (s3 : ∀ s ∈ ss, s.vals.length ≤ 20) (W : World) (h : Below w1.heap.size w1 W) =>
    (refKidsOf_any P ss l node (by omega) (fun s hs => by have := s3 s hs; omega) (by omega) A A2 c c2 W ((rs.below (hb1.trans (h.mono hb1.size))).more (Nat.le_trans hb1.size h.size)) ((rn.below (hb1.trans (h.mono hb1.size))).more (Nat.le_trans hb1.size h.size)) hnode).mono fun e w' hx => ints_out hx
  have hG2 := fun (s1 : ss.length ≤ 30) (s2 : l.length ≤ 210) (s3 : ∀ s ∈ ss, s.vals.length ≤ 20) (W : World) (h : Below w1.heap.size w1 W) =>
    (refGroups_any P ss l (by omega) (fun s hs => by have := s3 s hs; omega) (by omega) A A2 c c2 W ((rs.below (hb1.trans (h.mono hb1.size))).more (Nat.le_trans hb1.size h.size)) ((rn.below (hb1.trans (h.mono hb1.size))).more (Nat.le_trans hb1.size h.size))).mono fun e w' hx => ints_out hx
  have hk1 := kidL_len (P := P) (ss := ss) (l := l) (node := node)
  have hk2 := grpL_len (P := P) (ss := ss) (l := l)
  generalize kidE P ss l node = E1 at hF1 hG1
  generalize kidL P ss l node = L1 at hF1 hG1 hk1
  generalize chkE P ss l = E2 at hF2 hG2
  generalize grpL P ss l = L2 at hF2 hG2 hk2
  have hrs := rs; have hrn := rn
  obtain ⟨N, hN⟩ : ∃ N, N = ss.length := ⟨_, rfl⟩
  obtain ⟨n, hn⟩ : ∃ n, n = l.length := ⟨_, rfl⟩
  rw [← hN] at c1 hw1 HBG ⊢
  rw [← hn] at c3 hw1 HBG ⊢
  have HW1 := hid hw1; have HB1 := hid hb1; have HSM := hid hsm; have HR1 := hid hr1; have HNN := hid hN; have HNl := hid hn; have HRS := hid hrs; have HRN := hid hrn
  have HF1 := hid hF1; have HF2 := hid hF2; have HG1 := hid hG1; have HG2 := hid hG2
  have HK1 := hid hk1; have HK2 := hid hk2
  clear hF1 hF2 hG1 hG2 hk1 hk2
  have HW : Hid (∀ wr, Below w1.heap.size w1 wr → Below w.heap.size w wr) := fun wr h => hb1.trans (h.mono (by omega))
  have HWK := hid fun (W : World) => works_any W
  have HC0 := hid fun (wr : World) (h : Below w1.heap.size w1 wr) => (h.cell (p := ⟨w.heap.size, 0, none⟩) hz1).trans c0
  have HC1 := hid fun (wr : World) (h : Below w1.heap.size w1 wr) => (h.cell (p := ⟨w.heap.size, 1, none⟩) hz1).trans c1
  have HC3 := hid fun (wr : World) (h : Below w1.heap.size w1 wr) => (h.cell (p := ⟨w.heap.size, 2, none⟩) hz1).trans c3
  clear hw1 rs rn hsm hr1 hN hn hv hl hb1 hrs hrn
  go_enter Try.func4, Try.ntmps4
  go_upto_region 1 with (fail)
  rw [← HW1.out]
  clear HW1
  obtain ⟨B0, hB0⟩ : ∃ B0, B0 = w.heap.size := ⟨_, rfl⟩
  rw [← hB0] at c0 c1 c3 hz1 HC0 HC1 HC3 ⊢
  clear hB0
  cases r1 with
  | true =>
    go_wp2_with (first | (go_at_call 15; refine HBG.out.mono ?_; rintro e w2 ⟨rfl, hb2⟩; have HB2 := hid hb2; clear hb2 c0 c1 c3) | (go_at_call 16; refine (HWK.out _).mono ?_; rintro e w3 ⟨rfl, hb3⟩; have HB3 := hid (bnext HB2.out hb3); clear hb3))
    go_ret
    exact ⟨rfl, HW.out _ HB3.out⟩
  | false =>
    obtain ⟨s1, s2, s3⟩ := HSM.out (fun h => by have := HR1.out.2 h; cases this)
    have HLI := hid fun (W : World) (h : Below w1.heap.size w1 W) => list_at (P := P) (c := c) (V := .slice A2 n c2) s1 s3 (HW.out _ (Below.refl _ _)) HRS.out W h
    have HTX := hid fun (W : World) (h : Below w1.heap.size w1 W) => text_at (P := P) (A := A) (N := N) (c := c) (c2 := c2) s2 (HW.out _ (Below.refl _ _)) HRN.out W h
    rw [← HNN.out] at HLI
    rw [← HNl.out] at HTX
    replace HF1 := hid (HF1.out s1 s2 s3); replace HF2 := hid (HF2.out s1 s2 s3); replace HG1 := hid (HG1.out s1 s2 s3); replace HG2 := hid (HG2.out s1 s2 s3)
    rw [← HNl.out] at HF1 HF2 HG1 HG2
    rw [← HNN.out] at HG1 HG2
    have hk1 := HK1.out; have hk2 := HK2.out
    obtain ⟨n1, hn1⟩ : ∃ n1, n1 = L1.length := ⟨_, rfl⟩
    obtain ⟨n2, hn2⟩ : ∃ n2, n2 = L2.length := ⟨_, rfl⟩
    rw [← hn1] at HF1 HG1 hk1
    rw [← hn2] at HF2 HG2 hk2
    have HN1 := hid hn1; have HN2 := hid hn2
    have hs1 : n1 ≤ 1000000 := by omega
    have hs2 : n2 ≤ 1000000 := by omega
    clear hk1 hk2 hn1 hn2
    go_upto_region 3 with (first | (go_at_call 15; refine HBG.out.mono ?_; rintro e w2 ⟨rfl, hb2⟩; have HB2 := hid hb2; clear hb2 c0 c1 c3))
    have q0 := HC0.out w2 HB2.out; have q1 := HC1.out w2 HB2.out; have q3 := HC3.out w2 HB2.out
    go_region_held3 (fun w' => w'.cell? ⟨B0, 0, none⟩ = some (.int .i64 P) ∧ w'.cell? ⟨B0, 1, none⟩ = some (.slice A N c) ∧ w'.cell? ⟨B0, 2, none⟩ = some (.slice A2 n c2)) (first | exact ⟨q0, q1, q3⟩ | exact ⟨HC0.out _ HB30.out, HC1.out _ HB30.out, HC3.out _ HB30.out⟩ | exact ⟨HC0.out _ HB31.out, HC1.out _ HB31.out, HC3.out _ HB31.out⟩ | exact ⟨HC0.out _ HB32.out, HC1.out _ HB32.out, HC3.out _ HB32.out⟩ | exact ⟨cell_old (HC0.out _ HB32.out), cell_old (HC1.out _ HB32.out), cell_old (HC3.out _ HB32.out)⟩ | fail) (first | (go_at_call 17; refine (HLI.out _ (by first | exact HB2.out.drew | exact HB2.out)).mono ?_; rintro e w30 ⟨A30, c30, ss30, rfl, hl30, hb30⟩; have HL30 := hid hl30; have HB30 := hid (bnext (by first | exact HB2.out.drew | exact HB2.out) hb30); clear hl30 hb30) | (go_at_call 18; refine (HTX.out _ HB30.out).mono ?_; rintro e w31 ⟨A31, c31, rfl, ho31, hb31⟩; have HP31 := hid (Copies.mk' (c4 := c31) HL30.out hb31 (by rw [← HNl.out]; exact ho31)); have HB31 := hid (bnext HB30.out hb31); clear ho31 hb31) | (go_at_call 23; refine (HF1.out _ _ _ _ _ _ HP31.out HB31.out).mono ?_; rintro e w32 ⟨A32, c32, rfl, hr32, hb32⟩; have HR32 := hid hr32; have HB32 := hid (bnext HB31.out hb32); clear hr32; clear hb32))
    clear q0 q1 q3
    have q0 := HC0.out w32 HB32.out; have q1 := HC1.out w32 HB32.out; have q3 := HC3.out w32 HB32.out
    go_upto_region 5 with (first | (go_at_call 24; refine (HG1.out _ HB32.out).mono ?_; rintro e w4 ⟨A4, c4, rfl, hr4, hb4⟩; have HR4 := hid hr4; have HB4 := hid (bnext HB32.out hb4); replace HR32 := hid (rdn HR32.out hb4); clear hr4 hb4 q0 q1 q3))
    have q0 := HC0.out w4 HB4.out; have q1 := HC1.out w4 HB4.out; have q3 := HC3.out w4 HB4.out
    go_region_held3 (fun w' => w'.cell? ⟨B0, 0, none⟩ = some (.int .i64 P) ∧ w'.cell? ⟨B0, 1, none⟩ = some (.slice A N c) ∧ w'.cell? ⟨B0, 2, none⟩ = some (.slice A2 n c2)) (first | exact ⟨q0, q1, q3⟩ | exact ⟨HC0.out _ HB50.out, HC1.out _ HB50.out, HC3.out _ HB50.out⟩ | exact ⟨HC0.out _ HB51.out, HC1.out _ HB51.out, HC3.out _ HB51.out⟩ | exact ⟨HC0.out _ HB52.out, HC1.out _ HB52.out, HC3.out _ HB52.out⟩ | exact ⟨cell_old (HC0.out _ HB52.out), cell_old (HC1.out _ HB52.out), cell_old (HC3.out _ HB52.out)⟩ | fail) (first | (go_at_call 17; refine (HLI.out _ (by first | exact HB4.out.drew | exact HB4.out)).mono ?_; rintro e w50 ⟨A50, c50, ss50, rfl, hl50, hb50⟩; have HL50 := hid hl50; have HB50 := hid (bnext (by first | exact HB4.out.drew | exact HB4.out) hb50); (first | replace HR32 := hid (rdn HR32.out hb50) | replace HR32 := hid (rdn_d HR32.out hb50)); (first | replace HR4 := hid (rdn HR4.out hb50) | replace HR4 := hid (rdn_d HR4.out hb50)); clear hl50 hb50) | (go_at_call 18; refine (HTX.out _ HB50.out).mono ?_; rintro e w51 ⟨A51, c51, rfl, ho51, hb51⟩; have HP51 := hid (Copies.mk' (c4 := c51) HL50.out hb51 (by rw [← HNl.out]; exact ho51)); have HB51 := hid (bnext HB50.out hb51); (first | replace HR32 := hid (rdn HR32.out hb51) | replace HR32 := hid (rdn_d HR32.out hb51)); (first | replace HR4 := hid (rdn HR4.out hb51) | replace HR4 := hid (rdn_d HR4.out hb51)); clear ho51 hb51) | (go_at_call 25; refine (HF2.out _ _ _ _ _ _ HP51.out HB51.out).mono ?_; rintro e w52 ⟨A52, c52, rfl, hr52, hb52⟩; have HR52 := hid hr52; have HB52 := hid (bnext HB51.out hb52); clear hr52; (first | replace HR32 := hid (rdn HR32.out hb52) | replace HR32 := hid (rdn_d HR32.out hb52)); (first | replace HR4 := hid (rdn HR4.out hb52) | replace HR4 := hid (rdn_d HR4.out hb52)); clear hb52))
    clear q0 q1 q3
    have q0 := HC0.out w52 HB52.out; have q1 := HC1.out w52 HB52.out; have q3 := HC3.out w52 HB52.out
    have hwk := HWK.out
    go_wp2_with (first | (go_at_call 26; refine (HG2.out _ HB52.out).mono ?_; rintro e w6 ⟨A6, c6, rfl, hr6, hb6⟩; have HR6 := hid hr6; have HB6 := hid (bnext HB52.out hb6); replace HR32 := hid (rdn HR32.out hb6); replace HR4 := hid (rdn HR4.out hb6); replace HR52 := hid (rdn HR52.out hb6); have HS1 := hid (ints_same n1 HN1.out hs1 c32 c4 HR32.out HR4.out); clear hr6 hb6 q0 q1 q3) | (go_at_call 27; refine HS1.out.mono ?_; rintro e w7 ⟨rfl, hb7⟩; have HB7 := hid (bnext HB6.out hb7); have HS2 := hid (ints_same n2 HN2.out hs2 c52 c6 (rdn HR52.out hb7) (rdn HR6.out hb7)); clear hb7 HS1) | (go_at_call 27; refine HS2.out.mono ?_; rintro e w8 ⟨rfl, hb8⟩; have HB8 := hid (bnext HB7.out hb8); clear hb8 HS2) | (go_at_call 16; refine (HWK.out _).mono ?_; rintro e w9 ⟨rfl, hb9⟩; have HB9 := hid (bnext HB8.out hb9); clear hb9))
    go_ret
    exact ⟨rfl, HW.out _ HB9.out⟩
end Go.Proofs.Ytddbnggficlcfaa
