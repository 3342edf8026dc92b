/- slices.Equal at the program's three types. -/
import Derived.Test.YtddbnggficlcfaaLinesLaw
import Derived.Test.YtddbnggficlcfaaArgs
import Derived.Deep.RegionHeld3
namespace Go.Proofs.Ytddbnggficlcfaa
open Go.RowKit
theorem run_neq_span (x y : Int × Int) (W : World) : (binOp .neq 95 (.agg #[.int .i64 x.1, .int .i64 x.2]) (.agg #[.int .i64 y.1, .int .i64 y.2])).run Try.prog W = .ok (.bool (decide (x ≠ y))) W := by
  obtain ⟨x1, x2⟩ := x
  obtain ⟨y1, y2⟩ := y
  simp [go_sem]
  (repeat' split) <;> simp [*]
set_option maxRecDepth 100000 in
set_option maxHeartbeats 2000000 in
theorem eqMarks_any (a b : List Mk) (Aa Ab : Option Addr) (ca cb : Nat) (ha : a.length ≤ 1000000) (hb : b.length ≤ 1000000) (w : World) (ra : Mks w w.heap.size Aa a) (rb : Mks w w.heap.size Ab b) :
    Calls Try.prog 74 #[.slice Aa a.length ca, .slice Ab b.length cb] w (BoolIs (a = b) w) := by
  have RA := hid ra; have RB := hid rb
  have HNI := hid (fun (i : Nat) (ha : i < a.length) (hb : i < b.length) (h1 : a[i] ≠ b[i]) (h2 : a = b) => h1 (by subst h2; rfl))
  obtain ⟨n, hn⟩ : ∃ n, n = a.length := ⟨_, rfl⟩
  obtain ⟨m, hm⟩ : ∃ m, m = b.length := ⟨_, rfl⟩
  rw [← hn] at ha ⊢
  rw [← hm] at hb ⊢
  have HEQ := hid (fun (h1 : n = m) (h2 : ∀ (i : Nat) (ha : i < a.length) (hb : i < b.length), a[i] = b[i]) => eq_take h2 (by omega))
  have HNE := hid (fun (h1 : n ≠ m) (h2 : a = b) => h1 (by rw [hn, hm, h2]))
  have HN := hid hn; have HM := hid hm
  have HBW : Hid (∀ q, Below w.heap.size w (w.drewN q)) := fun q => below_drewN (Below.refl _ _) q
  clear hn hm ra rb
  go_enter Try.func74, Try.ntmps74
  by_cases hnm : n = m
  · have f0 : ((n : Int) != (m : Int)) = false := by simp [hnm]
    have f1 : (n != m) = false := by simp [hnm]
    have HQ := hid (HEQ.out hnm)
    have hnm2 := hid hnm
    clear HNE HEQ hnm
    go_wp2_with fail
    go_loopw [13] (fun kv wr => ∃ k : Nat, k ≤ n ∧ kv = .int .i64 k ∧ Hid (∀ (i : Nat) (ha : i < a.length) (hb : i < b.length), i < k → a[i] = b[i]) ∧ ∃ q, wr = w.drewN q) (fun kv _ => n - (intOf kv).toNat)
    case atStart => exact ⟨0, by omega, rfl, hid (fun i _ _ h => by omega), 0, rfl⟩
    case round =>
      obtain ⟨k, hk, rfl, hP, q, rfl⟩ := hrel
      by_cases hkn : k < n
      · have hka : k < a.length := by rw [← HN.out]; exact hkn
        have hkb : k < b.length := by rw [← HM.out, ← hnm2.out]; exact hkn
        have hq1 : (k : Int) < (n : Int) := by omega
        have hq2 : (k : Int) < (m : Int) := by rw [← hnm2.out]; exact hq1
        obtain ⟨b1, o1, rfl, _, hc1⟩ := RA.out.at (by omega)
        obtain ⟨b2, o2, rfl, _, hc2⟩ := RB.out.at (by omega)
        have hx := hc1 k hka; have hy := hc2 k hkb
        have hno := HNI.out k hka hkb
        have hyes : a[k]'hka = b[k]'hkb → ∀ (i : Nat) (ha : i < a.length) (hb : i < b.length), i < k + 1 → a[i] = b[i] := fun h i ha hb hi => by
          rcases Nat.eq_or_lt_of_le (Nat.le_of_lt_succ hi) with rfl | h3
          · exact h
          · exact hP.out i ha hb h3
        generalize a[k]'hka = x at hx hno hyes
        generalize b[k]'hkb = y at hy hno hyes
        have d1 := hx.sign; have d2 := hx.state; have d3 := hx.mn; have d4 := hx.mx; have e1 := hy.sign; have e2 := hy.state; have e3 := hy.mn; have e4 := hy.mx
        have HY := hid hyes; have HN2 := hid hno
        clear hx hy hc1 hc2 hno hyes hP
        by_cases hxy : x = y
        · have HX := hid (HY.out hxy)
          clear HY HN2
          subst hxy
          have hne := fun W => run_neq_mark x x W
          rw [decide_eq_false (fun h => h rfl)] at hne
          obtain ⟨x1, x2, x3, x4⟩ := x
          simp only [] at d1 d2 d3 d4 e1 e2 e3 e4 hne
          go_wp2_with fail
          go_quiet (fail)
          go_wp2_with fail
          go_roundw
          case rel => exact ⟨k + 1, by omega, by go_num, HX.out, _, by first | rfl | exact World.drewN_drewN _ _ _⟩
          case measure => simp [intOf]; omega
        · have HX := hid (HN2.out hxy)
          clear HY HN2
          have hne := fun W => run_neq_mark x y W
          rw [decide_eq_true hxy] at hne
          obtain ⟨x1, x2, x3, x4⟩ := x
          obtain ⟨y1, y2, y3, y4⟩ := y
          simp only [] at d1 d2 d3 d4 e1 e2 e3 e4 hne
          clear hxy
          go_wp2_with fail
          go_quiet (fail)
          go_wp2_with fail
          go_ret
          exact ⟨⟨_, rfl, iff_of_false (by simp) HX.out⟩, by first | exact HBW.out _ | (rw [World.drewN_drewN]; exact HBW.out _)⟩
      · obtain rfl : k = n := by omega
        have HX := hid (HQ.out fun i ha hb => hP.out i ha hb (by rw [HN.out]; exact ha))
        clear hP
        go_wp2_with fail
        go_ret
        exact ⟨⟨_, rfl, iff_of_true (by simp) HX.out⟩, HBW.out _⟩
  · have HX := hid (HNE.out hnm)
    have f0 : ((n : Int) != (m : Int)) = true := by rw [bne_iff_ne]; omega
    have f1 : (n != m) = true := by rw [bne_iff_ne]; exact hnm
    clear hnm
    go_wp2_with fail
    all_goals first | (go_ret; exact ⟨⟨_, rfl, iff_of_false (by simp) HX.out⟩, HBW.out 0⟩) | (exfalso; omega)
set_option maxRecDepth 100000 in
set_option maxHeartbeats 2000000 in
theorem eqSpans_any (a b : List (Int × Int)) (Aa Ab : Option Addr) (ca cb : Nat) (ha : a.length ≤ 1000000) (hb : b.length ≤ 1000000) (w : World) (ra : Prs w w.heap.size Aa a) (rb : Prs w w.heap.size Ab b) :
    Calls Try.prog 75 #[.slice Aa a.length ca, .slice Ab b.length cb] w (BoolIs (a = b) w) := by
  have RA := hid ra; have RB := hid rb
  have HNI := hid (fun (i : Nat) (ha : i < a.length) (hb : i < b.length) (h1 : a[i] ≠ b[i]) (h2 : a = b) => h1 (by subst h2; rfl))
  obtain ⟨n, hn⟩ : ∃ n, n = a.length := ⟨_, rfl⟩
  obtain ⟨m, hm⟩ : ∃ m, m = b.length := ⟨_, rfl⟩
  rw [← hn] at ha ⊢
  rw [← hm] at hb ⊢
  have HEQ := hid (fun (h1 : n = m) (h2 : ∀ (i : Nat) (ha : i < a.length) (hb : i < b.length), a[i] = b[i]) => eq_take h2 (by omega))
  have HNE := hid (fun (h1 : n ≠ m) (h2 : a = b) => h1 (by rw [hn, hm, h2]))
  have HN := hid hn; have HM := hid hm
  have HBW : Hid (∀ q, Below w.heap.size w (w.drewN q)) := fun q => below_drewN (Below.refl _ _) q
  clear hn hm ra rb
  go_enter Try.func75, Try.ntmps75
  by_cases hnm : n = m
  · have f0 : ((n : Int) != (m : Int)) = false := by simp [hnm]
    have f1 : (n != m) = false := by simp [hnm]
    have HQ := hid (HEQ.out hnm)
    have hnm2 := hid hnm
    clear HNE HEQ hnm
    go_wp2_with fail
    go_loopw [13] (fun kv wr => ∃ k : Nat, k ≤ n ∧ kv = .int .i64 k ∧ Hid (∀ (i : Nat) (ha : i < a.length) (hb : i < b.length), i < k → a[i] = b[i]) ∧ ∃ q, wr = w.drewN q) (fun kv _ => n - (intOf kv).toNat)
    case atStart => exact ⟨0, by omega, rfl, hid (fun i _ _ h => by omega), 0, rfl⟩
    case round =>
      obtain ⟨k, hk, rfl, hP, q, rfl⟩ := hrel
      by_cases hkn : k < n
      · have hka : k < a.length := by rw [← HN.out]; exact hkn
        have hkb : k < b.length := by rw [← HM.out, ← hnm2.out]; exact hkn
        have hq1 : (k : Int) < (n : Int) := by omega
        have hq2 : (k : Int) < (m : Int) := by rw [← hnm2.out]; exact hq1
        obtain ⟨b1, o1, rfl, _, hc1⟩ := RA.out.at (by omega)
        obtain ⟨b2, o2, rfl, _, hc2⟩ := RB.out.at (by omega)
        have hx := hc1 k hka; have hy := hc2 k hkb
        have hno := HNI.out k hka hkb
        have hyes : a[k]'hka = b[k]'hkb → ∀ (i : Nat) (ha : i < a.length) (hb : i < b.length), i < k + 1 → a[i] = b[i] := fun h i ha hb hi => by
          rcases Nat.eq_or_lt_of_le (Nat.le_of_lt_succ hi) with rfl | h3
          · exact h
          · exact hP.out i ha hb h3
        generalize a[k]'hka = x at hx hno hyes
        generalize b[k]'hkb = y at hy hno hyes
        have d1 := hx.p1; have d2 := hx.p2; have e1 := hy.p1; have e2 := hy.p2
        have HY := hid hyes; have HN2 := hid hno
        clear hx hy hc1 hc2 hno hyes hP
        by_cases hxy : x = y
        · have HX := hid (HY.out hxy)
          clear HY HN2
          subst hxy
          have hne := fun W => run_neq_span x x W
          rw [decide_eq_false (fun h => h rfl)] at hne
          obtain ⟨x1, x2⟩ := x
          simp only [] at d1 d2 e1 e2 hne
          go_wp2_with fail
          go_quiet (fail)
          go_wp2_with fail
          go_roundw
          case rel => exact ⟨k + 1, by omega, by go_num, HX.out, _, by first | rfl | exact World.drewN_drewN _ _ _⟩
          case measure => simp [intOf]; omega
        · have HX := hid (HN2.out hxy)
          clear HY HN2
          have hne := fun W => run_neq_span x y W
          rw [decide_eq_true hxy] at hne
          obtain ⟨x1, x2⟩ := x
          obtain ⟨y1, y2⟩ := y
          simp only [] at d1 d2 e1 e2 hne
          clear hxy
          go_wp2_with fail
          go_quiet (fail)
          go_wp2_with fail
          go_ret
          exact ⟨⟨_, rfl, iff_of_false (by simp) HX.out⟩, by first | exact HBW.out _ | (rw [World.drewN_drewN]; exact HBW.out _)⟩
      · obtain rfl : k = n := by omega
        have HX := hid (HQ.out fun i ha hb => hP.out i ha hb (by rw [HN.out]; exact ha))
        clear hP
        go_wp2_with fail
        go_ret
        exact ⟨⟨_, rfl, iff_of_true (by simp) HX.out⟩, HBW.out _⟩
  · have HX := hid (HNE.out hnm)
    have f0 : ((n : Int) != (m : Int)) = true := by rw [bne_iff_ne]; omega
    have f1 : (n != m) = true := by rw [bne_iff_ne]; exact hnm
    clear hnm
    go_wp2_with fail
    all_goals first | (go_ret; exact ⟨⟨_, rfl, iff_of_false (by simp) HX.out⟩, HBW.out 0⟩) | (exfalso; omega)
set_option maxRecDepth 100000 in
set_option maxHeartbeats 2000000 in
theorem eqNodes_any (a b : List Nd) (Aa Ab : Option Addr) (ca cb : Nat) (ha : a.length ≤ 1000000) (hb : b.length ≤ 1000000) (w : World) (ra : Nds w w.heap.size Aa a) (rb : Nds w w.heap.size Ab b) :
    Calls Try.prog 76 #[.slice Aa a.length ca, .slice Ab b.length cb] w (BoolIs (a = b) w) := by
  have RA := hid ra; have RB := hid rb
  have HNI := hid (fun (i : Nat) (ha : i < a.length) (hb : i < b.length) (h1 : a[i] ≠ b[i]) (h2 : a = b) => h1 (by subst h2; rfl))
  obtain ⟨n, hn⟩ : ∃ n, n = a.length := ⟨_, rfl⟩
  obtain ⟨m, hm⟩ : ∃ m, m = b.length := ⟨_, rfl⟩
  rw [← hn] at ha ⊢
  rw [← hm] at hb ⊢
  have HEQ := hid (fun (h1 : n = m) (h2 : ∀ (i : Nat) (ha : i < a.length) (hb : i < b.length), a[i] = b[i]) => eq_take h2 (by omega))
  have HNE := hid (fun (h1 : n ≠ m) (h2 : a = b) => h1 (by rw [hn, hm, h2]))
  have HN := hid hn; have HM := hid hm
  have HBW : Hid (∀ q, Below w.heap.size w (w.drewN q)) := fun q => below_drewN (Below.refl _ _) q
  clear hn hm ra rb
  go_enter Try.func76, Try.ntmps76
  by_cases hnm : n = m
  · have f0 : ((n : Int) != (m : Int)) = false := by simp [hnm]
    have f1 : (n != m) = false := by simp [hnm]
    have HQ := hid (HEQ.out hnm)
    have hnm2 := hid hnm
    clear HNE HEQ hnm
    go_wp2_with fail
    go_loopw [13] (fun kv wr => ∃ k : Nat, k ≤ n ∧ kv = .int .i64 k ∧ Hid (∀ (i : Nat) (ha : i < a.length) (hb : i < b.length), i < k → a[i] = b[i]) ∧ ∃ q, wr = w.drewN q) (fun kv _ => n - (intOf kv).toNat)
    case atStart => exact ⟨0, by omega, rfl, hid (fun i _ _ h => by omega), 0, rfl⟩
    case round =>
      obtain ⟨k, hk, rfl, hP, q, rfl⟩ := hrel
      by_cases hkn : k < n
      · have hka : k < a.length := by rw [← HN.out]; exact hkn
        have hkb : k < b.length := by rw [← HM.out, ← hnm2.out]; exact hkn
        have hq1 : (k : Int) < (n : Int) := by omega
        have hq2 : (k : Int) < (m : Int) := by rw [← hnm2.out]; exact hq1
        obtain ⟨b1, o1, rfl, _, hc1⟩ := RA.out.at (by omega)
        obtain ⟨b2, o2, rfl, _, hc2⟩ := RB.out.at (by omega)
        have hx := hc1 k hka; have hy := hc2 k hkb
        have hno := HNI.out k hka hkb
        have hyes : a[k]'hka = b[k]'hkb → ∀ (i : Nat) (ha : i < a.length) (hb : i < b.length), i < k + 1 → a[i] = b[i] := fun h i ha hb hi => by
          rcases Nat.eq_or_lt_of_le (Nat.le_of_lt_succ hi) with rfl | h3
          · exact h
          · exact hP.out i ha hb h3
        generalize a[k]'hka = x at hx hno hyes
        generalize b[k]'hkb = y at hy hno hyes
        have d1 := hx.kind; have d2 := hx.depth; have d3 := hx.sign; have d4 := hx.turn; have d5 := hx.mir; have d6 := hx.state; have d7 := hx.mn; have d8 := hx.mx; have e1 := hy.kind; have e2 := hy.depth; have e3 := hy.sign; have e4 := hy.turn; have e5 := hy.mir; have e6 := hy.state; have e7 := hy.mn; have e8 := hy.mx
        have HY := hid hyes; have HN2 := hid hno
        clear hx hy hc1 hc2 hno hyes hP
        by_cases hxy : x = y
        · have HX := hid (HY.out hxy)
          clear HY HN2
          subst hxy
          have hne := fun W => run_neq_node x x W
          rw [decide_eq_false (fun h => h rfl)] at hne
          obtain ⟨x1, x2, x3, x4, x5, x6, x7, x8⟩ := x
          simp only [] at d1 d2 d3 d4 d5 d6 d7 d8 e1 e2 e3 e4 e5 e6 e7 e8 hne
          go_wp2_with fail
          go_quiet (fail)
          go_wp2_with fail
          go_roundw
          case rel => exact ⟨k + 1, by omega, by go_num, HX.out, _, by first | rfl | exact World.drewN_drewN _ _ _⟩
          case measure => simp [intOf]; omega
        · have HX := hid (HN2.out hxy)
          clear HY HN2
          have hne := fun W => run_neq_node x y W
          rw [decide_eq_true hxy] at hne
          obtain ⟨x1, x2, x3, x4, x5, x6, x7, x8⟩ := x
          obtain ⟨y1, y2, y3, y4, y5, y6, y7, y8⟩ := y
          simp only [] at d1 d2 d3 d4 d5 d6 d7 d8 e1 e2 e3 e4 e5 e6 e7 e8 hne
          clear hxy
          go_wp2_with fail
          go_quiet (fail)
          go_wp2_with fail
          go_ret
          exact ⟨⟨_, rfl, iff_of_false (by simp) HX.out⟩, by first | exact HBW.out _ | (rw [World.drewN_drewN]; exact HBW.out _)⟩
      · obtain rfl : k = n := by omega
        have HX := hid (HQ.out fun i ha hb => hP.out i ha hb (by rw [HN.out]; exact ha))
        clear hP
        go_wp2_with fail
        go_ret
        exact ⟨⟨_, rfl, iff_of_true (by simp) HX.out⟩, HBW.out _⟩
  · have HX := hid (HNE.out hnm)
    have f0 : ((n : Int) != (m : Int)) = true := by rw [bne_iff_ne]; omega
    have f1 : (n != m) = true := by rw [bne_iff_ne]; exact hnm
    clear hnm
    go_wp2_with fail
    all_goals first | (go_ret; exact ⟨⟨_, rfl, iff_of_false (by simp) HX.out⟩, HBW.out 0⟩) | (exfalso; omega)
end Go.Proofs.Ytddbnggficlcfaa

/- groups.Same, groups.Alike, ostraconref02.Alike. -/
namespace Go.Proofs.Ytddbnggficlcfaa
open Go.RowKit Go.Shelf
set_option maxRecDepth 100000 in
set_option maxHeartbeats 2000000 in
theorem sameE_any (a b : List Nd) (Aa Ab : Option Addr) (ca cb : Nat) (ha : a.length ≤ 1000000) (hb : b.length ≤ 1000000) (w : World) (ra : Nds w w.heap.size Aa a) (rb : Nds w w.heap.size Ab b) :
    Calls Try.prog 42 #[.agg #[.slice Aa a.length ca], .agg #[.slice Ab b.length cb]] w (BoolIs (a = b) w) := by
  obtain ⟨w1, hw1⟩ : ∃ w1, w1 = (w.alloc (.cells #[.slice Aa a.length ca] 27)).alloc (.cells #[.slice Ab b.length cb] 27) := ⟨_, rfl⟩
  have hb1 : Below w.heap.size w w1 := by rw [hw1]; exact ((Below.refl _ _).alloc (Nat.le_refl _) _).alloc (by simp) _
  have c0 : w1.cell? ⟨w.heap.size, 0, none⟩ = some (.slice Aa a.length ca) := by rw [hw1]; exact cell_old (cell_here rfl rfl)
  have c1 : w1.cell? ⟨w.heap.size + 1, 0, none⟩ = some (.slice Ab b.length cb) := by rw [hw1]; exact cell_here (by simp) rfl
  have HE := hid (eqNodes_any a b Aa Ab ca cb ha hb w1 ((ra.below hb1).more hb1.size) ((rb.below hb1).more hb1.size))
  have HW1 := hid hw1; have HB1 := hid hb1
  generalize a.length = n at c0 hw1 HE HW1 ⊢
  generalize b.length = m at c1 hw1 HE HW1 ⊢
  clear hw1 ra rb hb1 ha hb
  go_enter Try.func42, Try.ntmps42
  go_upto_region 1 with (fail)
  rw [← HW1.out]
  clear HW1
  go_wp2_with (first | (go_at_call 76; refine HE.out.mono ?_; rintro e w2 ⟨⟨x, rfl, hx⟩, hb2⟩; have HX := hid hx; have HB2 := hid (HB1.out.trans (hb2.mono HB1.out.size)); clear hx hb2))
  go_ret
  exact ⟨⟨_, rfl, HX.out⟩, HB2.out⟩
open Classical in
/-- The error of Alike. -/
noncomputable def alkE (P : Int) (ss : List Sg) (a b : List Nd) : Int := if chkE P ss a ≠ 0 then chkE P ss a else chkE P ss b
/-- Are two texts read alike? -/
def alkR (a b : List Nd) : Prop := marks a = marks b ∧ spans a = spans b
def AlkPost (E : Int) (R : Prop) (w : World) (e : Ending) (w' : World) : Prop := (∃ x : Bool, e = .returned (.tuple #[.bool x, .int .i64 E]) ∧ (x = true ↔ E = 0 ∧ R)) ∧ Below w.heap.size w w'
theorem marks_le (l : List Nd) : (marks l).length ≤ l.length := by unfold marks; rw [List.length_map]; exact lvs_all _
theorem spans_le (l : List Nd) : (spans l).length ≤ l.length := by
  unfold spans ringsOf
  rw [List.length_map]
  have := rgs_len (l := l) (l.length + 1) (-1) 0 (by omega) (by omega)
  have e : span l (-1) = l.length := if_neg (by omega)
  rwa [e] at this
theorem alkE_a {P : Int} {ss : List Sg} {a b : List Nd} (h : chkE P ss a ≠ 0) : alkE P ss a b = chkE P ss a := if_pos h
theorem alkE_b {P : Int} {ss : List Sg} {a b : List Nd} (h : chkE P ss a = 0) : alkE P ss a b = chkE P ss b := if_neg (by simp [h])
set_option maxRecDepth 100000 in
set_option maxHeartbeats 8000000 in
theorem alikeE_any (P : Int) (ss : List Sg) (a b : List Nd) (hN : ss.length ≤ 1000000) (hv : ∀ s ∈ ss, s.vals.length ≤ 1000000 ∧ s.vals.length ≤ s.vc) (ha : a.length ≤ 1000000) (hb : b.length ≤ 1000000) (A Aa Ab : Option Addr) (c ca cb : Nat) (w : World) (rs : Sgs w w.heap.size A ss) (ra : Nds w w.heap.size Aa a) (rb : Nds w w.heap.size Ab b) :
    Calls Try.prog 40 #[.agg #[.int .i64 P, .slice A ss.length c], .agg #[.slice Aa a.length ca], .agg #[.slice Ab b.length cb]] w (AlkPost (alkE P ss a b) (alkR a b) w) := by
  obtain ⟨w1, hw1⟩ : ∃ w1, w1 = ((w.alloc (.cells #[.int .i64 P, .slice A ss.length c] 24)).alloc (.cells #[.slice Aa a.length ca] 27)).alloc (.cells #[.slice Ab b.length cb] 27) := ⟨_, rfl⟩
  have hb1 : Below w.heap.size w w1 := by rw [hw1]; exact (((Below.refl _ _).alloc (Nat.le_refl _) _).alloc (by simp) _).alloc (by simp; omega) _
  have hz1 : w1.heap.size = w.heap.size + 3 := by rw [hw1]; simp
  have c0 : w1.cell? ⟨w.heap.size, 0, none⟩ = some (.int .i64 P) := by rw [hw1]; exact cell_old (cell_old (cell_here rfl rfl))
  have c1 : w1.cell? ⟨w.heap.size, 1, none⟩ = some (.slice A ss.length c) := by rw [hw1]; exact cell_old (cell_old (cell_here rfl rfl))
  have c3 : w1.cell? ⟨w.heap.size + 1, 0, none⟩ = some (.slice Aa a.length ca) := by rw [hw1]; exact cell_old (cell_here (by simp) rfl)
  have c4 : w1.cell? ⟨w.heap.size + 2, 0, none⟩ = some (.slice Ab b.length cb) := by rw [hw1]; exact cell_here (by simp) rfl
  have HCA := hid (check_any P ss a hN hv ha A Aa c ca w1 ((rs.below hb1).more (by omega)) ((ra.below hb1).more (by omega)))
  have HCB := hid fun (W : World) (h : Below w.heap.size w W) => check_any P ss b hN hv hb A Ab c cb W ((rs.below h).more h.size) ((rb.below h).more h.size)
  have HLA := hid fun (h : chkE P ss a = 0) (W : World) (h2 : Below w.heap.size w W) => line_any a ha (good_hon h) Aa ca W.heap.size W (Nat.le_refl _) ((ra.below h2).more h2.size)
  have HLB := hid fun (h : chkE P ss b = 0) (W : World) (h2 : Below w.heap.size w W) => line_any b hb (good_hon h) Ab cb W.heap.size W (Nat.le_refl _) ((rb.below h2).more h2.size)
  have HRA := hid fun (h : chkE P ss a = 0) (W : World) (h2 : Below w.heap.size w W) => rings_any a ha (good_hon h) Aa ca W.heap.size W (Nat.le_refl _) ((ra.below h2).more h2.size)
  have HRB := hid fun (h : chkE P ss b = 0) (W : World) (h2 : Below w.heap.size w W) => rings_any b hb (good_hon h) Ab cb W.heap.size W (Nat.le_refl _) ((rb.below h2).more h2.size)
  have m1 := alkE_a (P := P) (ss := ss) (a := a) (b := b); have m2 := alkE_b (P := P) (ss := ss) (a := a) (b := b)
  have hAR : alkR a b ↔ marks a = marks b ∧ spans a = spans b := Iff.rfl
  have l1 := marks_le a; have l2 := marks_le b; have l3 := spans_le a; have l4 := spans_le b
  have HMM := hid fun (W : World) (A1 A2 : Option Addr) (c1 c2 : Nat) (r1 : Mks W W.heap.size A1 (marks a)) (r2 : Mks W W.heap.size A2 (marks b)) => eqMarks_any (marks a) (marks b) A1 A2 c1 c2 (by omega) (by omega) W r1 r2
  have HSS := hid fun (W : World) (A1 A2 : Option Addr) (c1 c2 : Nat) (r1 : Prs W W.heap.size A1 (spans a)) (r2 : Prs W W.heap.size A2 (spans b)) => eqSpans_any (spans a) (spans b) A1 A2 c1 c2 (by omega) (by omega) W r1 r2
  generalize alkE P ss a b = E at m1 m2 ⊢
  generalize alkR a b = RR at hAR ⊢
  generalize chkE P ss a = CA at HCA HLA HRA m1 m2
  generalize chkE P ss b = CB at HCB HLB HRB m1 m2
  generalize marks a = MA at HLA HMM hAR
  generalize marks b = MB at HLB HMM hAR
  generalize spans a = SA at HRA HSS hAR
  generalize spans b = SB at HRB HSS hAR
  obtain ⟨k1, hk1⟩ : ∃ k, k = MA.length := ⟨_, rfl⟩
  obtain ⟨k2, hk2⟩ : ∃ k, k = MB.length := ⟨_, rfl⟩
  obtain ⟨k3, hk3⟩ : ∃ k, k = SA.length := ⟨_, rfl⟩
  obtain ⟨k4, hk4⟩ : ∃ k, k = SB.length := ⟨_, rfl⟩
  rw [← hk1] at HLA HMM; rw [← hk2] at HLB HMM; rw [← hk3] at HRA HSS; rw [← hk4] at HRB HSS
  have HK1 := hid hk1; have HK2 := hid hk2; have HK3 := hid hk3; have HK4 := hid hk4
  have M1 := hid m1; have M2 := hid m2; have HAR := hid hAR
  clear m1 m2 hAR l1 l2 l3 l4 hk1 hk2 hk3 hk4
  generalize ss.length = N at HCA HCB c1 hw1 ⊢
  generalize a.length = na at HCA HLA HRA c3 hw1 ⊢
  generalize b.length = nb at HCB HLB HRB c4 hw1 ⊢
  have HW1 := hid hw1; have HB1 := hid hb1
  have hzx : w.heap.size < w1.heap.size := by omega
  have hzz : w.heap.size + 1 < w1.heap.size := by omega
  have hzy : w.heap.size + 2 < w1.heap.size := by omega
  have HC0 := hid fun (wr : World) (h : Below w1.heap.size w1 wr) => (h.cell (p := ⟨w.heap.size, 0, none⟩) hzx).trans c0
  have HC1 := hid fun (wr : World) (h : Below w1.heap.size w1 wr) => (h.cell (p := ⟨w.heap.size, 1, none⟩) hzx).trans c1
  have HC3 := hid fun (wr : World) (h : Below w1.heap.size w1 wr) => (h.cell (p := ⟨w.heap.size + 1, 0, none⟩) hzz).trans c3
  have HC4 := hid fun (wr : World) (h : Below w1.heap.size w1 wr) => (h.cell (p := ⟨w.heap.size + 2, 0, none⟩) hzy).trans c4
  have HW : Hid (∀ wr, Below w1.heap.size w1 wr → Below w.heap.size w wr) := fun wr h => hb1.trans (h.mono (by omega))
  clear hw1 hb1 hz1 rs ra rb hv ha hb hN
  go_enter Try.func40, Try.ntmps40
  go_upto_region 1 with (fail)
  simp only [Nat.add_assoc, Nat.reduceAdd]
  rw [← HW1.out]
  clear HW1
  obtain ⟨B0, hB0⟩ : ∃ B0, B0 = w.heap.size := ⟨_, rfl⟩
  obtain ⟨B1, hB1⟩ : ∃ B1, B1 = B0 + 1 := ⟨_, rfl⟩
  obtain ⟨B2, hB2⟩ : ∃ B2, B2 = B0 + 2 := ⟨_, rfl⟩
  rw [← hB0, ← hB1] at c3 HC3 hzz
  rw [← hB0, ← hB2] at c4 HC4 hzy
  rw [← hB0] at c0 c1 HC0 HC1 hzx
  rw [← hB0, ← hB1, ← hB2]
  clear hB0 hB1 hB2
  by_cases hCA : CA = 0
  · have f0 : (CA != 0) = false := by simp [hCA]
    have x2 := M2.out hCA
    replace HLA := hid (HLA.out hCA); replace HRA := hid (HRA.out hCA)
    clear M1 M2
    subst hCA x2
    go_upto_region 4 with (first | (go_at_call 19; refine HCA.out.mono ?_; rintro e w2 ⟨rfl, hb2⟩; have HB2 := hid hb2; clear hb2 HCA c0 c1 c3 c4))
    have q0 := HC0.out _ HB2.out; have q1 := HC1.out _ HB2.out; have q4 := HC4.out _ HB2.out
    by_cases hCB : E = 0
    · have f1 : (E != 0) = false := by simp [hCB]
      replace HLB := hid (HLB.out hCB); replace HRB := hid (HRB.out hCB)
      subst hCB
      go_upto_region 7 with (first | (go_at_call 19; refine (HCB.out _ (HW.out _ HB2.out)).mono ?_; rintro e w3 ⟨rfl, hb3⟩; have HB3 := hid (HB2.out.trans (hb3.mono HB2.out.size)); clear hb3 HCB q0 q1 q4))
      have q3 := HC3.out _ HB3.out; have q4 := HC4.out _ HB3.out
      by_cases hM : MA = MB
      · go_region_law (first
          | (go_simp; have := HX4.out; go_at_call 68; refine (HLB.out _ (HW.out _ HX4.out)).mono ?_; rintro e w5 ⟨v5, rfl, ho5, hb5⟩; obtain ⟨A5, c5, rfl⟩ := own_slice ho5; have HM5 := hid (show Mks w5 w5.heap.size A5 MB from by unfold Mks; rw [← HK2.out]; exact Reads.of_own ho5); replace HM4 := hid (rdn HM4.out hb5); have HX5 := hid (bnext HX4.out hb5); clear hb5 ho5 this)
          | (go_simp; go_at_call 68; refine (HLA.out _ (HW.out _ (by first | exact HB3.out | exact HB3.out.drew))).mono ?_; rintro e w4 ⟨v4, rfl, ho4, hb4⟩; obtain ⟨A4, c4, rfl⟩ := own_slice ho4; have HM4 := hid (show Mks w4 w4.heap.size A4 MA from by unfold Mks; rw [← HK1.out]; exact Reads.of_own ho4); have HX4 := hid (show Below w1.heap.size w1 w4 from bnext (by first | exact HB3.out.drew | exact HB3.out) hb4); have q34 := HC3.out _ HX4.out; have q44 := HC4.out _ HX4.out; clear hb4 ho4)
          | (go_simp; go_at_call 74; refine ((HMM.out w5 A4 A5 c4 c5 HM4.out HM5.out).mono fun e w' h => h.get (r := true) (iff_of_true rfl hM)).mono ?_; rintro e w6 ⟨rfl, hb6⟩; have HX6 := hid (bnext HX5.out hb6); have q36 := HC3.out _ HX6.out; have q46 := HC4.out _ HX6.out; clear hb6)
          | (go_simp; have := HX7.out; go_at_call 71; refine (HRB.out _ (HW.out _ HX7.out)).mono ?_; rintro e w8 ⟨v8, rfl, ho8, hb8⟩; obtain ⟨A8, c8, rfl⟩ := own_slice ho8; have HM8 := hid (show Prs w8 w8.heap.size A8 SB from by unfold Prs; rw [← HK4.out]; exact Reads.of_own ho8); replace HM7 := hid (rdn HM7.out hb8); have HX8 := hid (bnext HX7.out hb8); clear hb8 ho8 this)
          | (go_simp; go_at_call 71; refine (HRA.out _ (HW.out _ HX6.out)).mono ?_; rintro e w7 ⟨v7, rfl, ho7, hb7⟩; obtain ⟨A7, c7, rfl⟩ := own_slice ho7; have HM7 := hid (show Prs w7 w7.heap.size A7 SA from by unfold Prs; rw [← HK3.out]; exact Reads.of_own ho7); have HX7 := hid (bnext HX6.out hb7); have q37 := HC3.out _ HX7.out; have q47 := HC4.out _ HX7.out; clear hb7 ho7)
          | (go_simp; go_at_call 75; refine (HSS.out w8 A7 A8 c7 c8 HM7.out HM8.out).mono ?_; rintro e w9 ⟨⟨x, rfl, hx⟩, hb9⟩; have HXX := hid hx; have HX9 := hid (bnext HX8.out hb9); clear hb9 hx))
        all_goals
          go_wp2_with fail
          go_ret2
          exact ⟨⟨x, rfl, HXX.out.trans ⟨fun h => ⟨rfl, HAR.out.2 ⟨hM, h⟩⟩, fun h => (HAR.out.1 h.2).2⟩⟩, HW.out _ HX9.out⟩
      · go_region_law (first
          | (go_simp; have := HX4.out; go_at_call 68; refine (HLB.out _ (HW.out _ HX4.out)).mono ?_; rintro e w5 ⟨v5, rfl, ho5, hb5⟩; obtain ⟨A5, c5, rfl⟩ := own_slice ho5; have HM5 := hid (show Mks w5 w5.heap.size A5 MB from by unfold Mks; rw [← HK2.out]; exact Reads.of_own ho5); replace HM4 := hid (rdn HM4.out hb5); have HX5 := hid (bnext HX4.out hb5); clear hb5 ho5 this)
          | (go_simp; go_at_call 68; refine (HLA.out _ (HW.out _ (by first | exact HB3.out | exact HB3.out.drew))).mono ?_; rintro e w4 ⟨v4, rfl, ho4, hb4⟩; obtain ⟨A4, c4, rfl⟩ := own_slice ho4; have HM4 := hid (show Mks w4 w4.heap.size A4 MA from by unfold Mks; rw [← HK1.out]; exact Reads.of_own ho4); have HX4 := hid (show Below w1.heap.size w1 w4 from bnext (by first | exact HB3.out.drew | exact HB3.out) hb4); have q34 := HC3.out _ HX4.out; have q44 := HC4.out _ HX4.out; clear hb4 ho4)
          | (go_simp; go_at_call 74; refine ((HMM.out w5 A4 A5 c4 c5 HM4.out HM5.out).mono fun e w' h => h.get (r := false) (iff_of_false (by simp) hM)).mono ?_; rintro e w6 ⟨rfl, hb6⟩; have HX6 := hid (bnext HX5.out hb6); have q36 := HC3.out _ HX6.out; have q46 := HC4.out _ HX6.out; clear hb6))
        all_goals
          go_wp2_with fail
          go_ret2
          exact ⟨⟨false, rfl, iff_of_false (by simp) (fun h => hM (HAR.out.1 h.2).1)⟩, HW.out _ HX6.out⟩
    · have f1 : (E != 0) = true := by simp [hCB]
      go_wp2_with (first | (go_at_call 19; refine (HCB.out _ (HW.out _ HB2.out)).mono ?_; rintro e w3 ⟨rfl, hb3⟩; have HB3 := hid (HB2.out.trans (hb3.mono HB2.out.size)); clear hb3 HCB q0 q1 q4))
      go_ret2
      exact ⟨⟨false, rfl, iff_of_false (by simp) (fun h => hCB h.1)⟩, HW.out _ HB3.out⟩
  · have f0 : (CA != 0) = true := by simp [hCA]
    have x2 := M1.out hCA
    clear M1 M2
    subst x2
    go_wp2_with (first | (go_at_call 19; refine HCA.out.mono ?_; rintro e w2 ⟨rfl, hb2⟩; have HB2 := hid hb2; clear hb2 HCA c0 c1 c3 c4))
    go_ret2
    exact ⟨⟨false, rfl, iff_of_false (by simp) (fun h => hCA h.1)⟩, HW.out _ HB2.out⟩
end Go.Proofs.Ytddbnggficlcfaa
