/- ostraconref02.Same. -/
import Derived.Test.YtfkcpcdndleboaaOwn
import Derived.Test.YtfkcpcdndleboaaFam
namespace Go.Proofs.Ytfkcpcdndleboaa
open Go.RowKit
theorem run_neq_node (x y : Nd) (W : World) : (binOp .neq 49 (.agg #[.int .i64 x.kind, .int .i64 x.depth, .int .i64 x.sign, .int .i64 x.turn, .bool x.mir, .int .i64 x.state, .int .i64 x.mn, .int .i64 x.mx]) (.agg #[.int .i64 y.kind, .int .i64 y.depth, .int .i64 y.sign, .int .i64 y.turn, .bool y.mir, .int .i64 y.state, .int .i64 y.mn, .int .i64 y.mx])).run Try.prog W = .ok (.bool (decide (x ≠ y))) W := by
  obtain ⟨x1, x2, x3, x4, x5, x6, x7, x8⟩ := x
  obtain ⟨y1, y2, y3, y4, y5, y6, y7, y8⟩ := y
  simp [go_sem]
  (repeat' split) <;> simp [*]
theorem eq_take {α : Type} {a b : List α} (h : ∀ (i : Nat) (ha : i < a.length) (hb : i < b.length), a[i] = b[i]) (hl : a.length = b.length) : a = b := List.ext_getElem hl h
set_option maxRecDepth 100000 in
set_option maxHeartbeats 2000000 in
theorem sameText_any (a b : List Nd) (Aa Ab : Option Addr) (ca cb : Nat) (ha : a.length ≤ 1000000) (hb : b.length ≤ 1000000) (w : World) (ra : Nds w w.heap.size Aa a) (rb : Nds w w.heap.size Ab b) :
    Calls Try.prog 17 #[.agg #[.slice Aa a.length ca], .agg #[.slice Ab b.length cb]] w (BoolIs (a = b) w) := by
  obtain ⟨w1, hw1⟩ : ∃ w1, w1 = (w.alloc (.cells #[.slice Aa a.length ca] 27)).alloc (.cells #[.slice Ab b.length cb] 27) := ⟨_, rfl⟩
  have hb1 : Below w.heap.size w w1 := by rw [hw1]; exact ((Below.refl _ _).alloc (Nat.le_refl _) _).alloc (by simp) _
  have c0 : w1.cell? ⟨w.heap.size, 0, none⟩ = some (.slice Aa a.length ca) := by rw [hw1]; exact cell_old (cell_here rfl rfl)
  have c1 : w1.cell? ⟨w.heap.size + 1, 0, none⟩ = some (.slice Ab b.length cb) := by rw [hw1]; exact cell_here (by simp) rfl
  have RA := hid (ra.below hb1); have RB := hid (rb.below hb1)
  have HNI := hid (fun (i : Nat) (ha : i < a.length) (hb : i < b.length) (h1 : a[i] ≠ b[i]) (h2 : a = b) => h1 (by subst h2; rfl))
  obtain ⟨n, hn⟩ : ∃ n, n = a.length := ⟨_, rfl⟩
  obtain ⟨m, hm⟩ : ∃ m, m = b.length := ⟨_, rfl⟩
  rw [← hn] at ha c0 hw1 ⊢
  rw [← hm] at hb c1 hw1 ⊢
  have HEQ := hid (fun (h1 : n = m) (h2 : ∀ (i : Nat) (ha : i < a.length) (hb : i < b.length), a[i] = b[i]) => eq_take h2 (by omega))
  have HNE := hid (fun (h1 : n ≠ m) (h2 : a = b) => h1 (by rw [hn, hm, h2]))
  have HN := hid hn; have HM := hid hm; have HW1 := hid hw1; have HB1 := hid hb1
  have HBW : Hid (∀ q, Below w.heap.size w (w1.drewN q)) := fun q => below_drewN hb1 q
  clear hn hm hw1 ra rb hb1
  go_enter Try.func17, Try.ntmps17
  go_upto_region 1 with (fail)
  rw [← HW1.out]
  obtain ⟨B0, hB0⟩ : ∃ B0, B0 = w.heap.size := ⟨_, rfl⟩
  rw [← hB0] at c0 c1 ⊢
  clear hB0 HW1
  by_cases hnm : n = m
  · have f0 : ((n : Int) != (m : Int)) = false := by simp [hnm]
    have f1 : (n != m) = false := by simp [hnm]
    have HQ := hid (HEQ.out hnm)
    have hnm2 := hid hnm
    clear HNE HEQ hnm
    go_wp2_with fail
    go_loopw [5] (fun kv wr => ∃ k : Nat, k ≤ n ∧ kv = .int .i64 k ∧ Hid (∀ (i : Nat) (ha : i < a.length) (hb : i < b.length), i < k → a[i] = b[i]) ∧ ∃ q, wr = w1.drewN q) (fun kv _ => n - (intOf kv).toNat)
    case atStart => exact ⟨0, by omega, rfl, hid (fun i _ _ h => by omega), 0, rfl⟩
    case round =>
      obtain ⟨k, hk, rfl, hP, q, rfl⟩ := hrel
      by_cases hkn : k < n
      · have hka : k < a.length := by rw [← HN.out]; exact hkn
        have hkb : k < b.length := by rw [← HM.out, ← hnm2.out]; exact hkn
        have hq1 : (k : Int) < (n : Int) := by omega
        have hq2 : (k : Int) < (m : Int) := by rw [← hnm2.out]; exact hq1
        obtain ⟨b1, o1, rfl, _, hc1⟩ := RA.out.at (by omega)
        obtain ⟨b2, o2, rfl, _, hc2⟩ := RB.out.at (by omega)
        have hx := hc1 k hka; have hy := hc2 k hkb
        have hno := HNI.out k hka hkb
        have hyes : a[k]'hka = b[k]'hkb → ∀ (i : Nat) (ha : i < a.length) (hb : i < b.length), i < k + 1 → a[i] = b[i] := fun h i ha hb hi => by
          rcases Nat.eq_or_lt_of_le (Nat.le_of_lt_succ hi) with rfl | h3
          · exact h
          · exact hP.out i ha hb h3
        generalize a[k]'hka = x at hx hno hyes
        generalize b[k]'hkb = y at hy hno hyes
        have d1 := hx.kind; have d2 := hx.depth; have d3 := hx.sign; have d4 := hx.turn; have d5 := hx.mir; have d6 := hx.state; have d7 := hx.mn; have d8 := hx.mx
        have e1 := hy.kind; have e2 := hy.depth; have e3 := hy.sign; have e4 := hy.turn; have e5 := hy.mir; have e6 := hy.state; have e7 := hy.mn; have e8 := hy.mx
        have HY := hid hyes; have HN2 := hid hno
        clear hx hy hc1 hc2 hno hyes hP
        by_cases hxy : x = y
        · have HX := hid (HY.out hxy)
          clear HY HN2
          subst hxy
          obtain ⟨x1, x2, x3, x4, x5, x6, x7, x8⟩ := x
          simp only [] at d1 d2 d3 d4 d5 d6 d7 d8 e1 e2 e3 e4 e5 e6 e7 e8
          go_wp2_with fail
          go_quiet (fail)
          go_wp2_with fail
          go_roundw
          case rel => exact ⟨k + 1, by omega, by go_num, HX.out, _, by first | rfl | exact World.drewN_drewN _ _ _⟩
          case measure => simp [intOf]; omega
        · have HX := hid (HN2.out hxy)
          clear HY HN2
          have hne := fun W => run_neq_node x y W
          rw [decide_eq_true hxy] at hne
          obtain ⟨x1, x2, x3, x4, x5, x6, x7, x8⟩ := x
          obtain ⟨y1, y2, y3, y4, y5, y6, y7, y8⟩ := y
          simp only [] at d1 d2 d3 d4 d5 d6 d7 d8 e1 e2 e3 e4 e5 e6 e7 e8 hne
          clear hxy
          go_wp2_with fail
          go_quiet (fail)
          go_wp2_with fail
          go_ret
          exact ⟨⟨_, rfl, iff_of_false (by simp) HX.out⟩, by first | exact HBW.out _ | (rw [World.drewN_drewN]; exact HBW.out _)⟩
      · obtain rfl : k = n := by omega
        have HX := hid (HQ.out fun i ha hb => hP.out i ha hb (by rw [HN.out]; exact ha))
        clear hP
        go_wp2_with fail
        go_ret
        exact ⟨⟨_, rfl, iff_of_true (by simp) HX.out⟩, HBW.out _⟩
  · have HX := hid (HNE.out hnm)
    have f0 : ((n : Int) != (m : Int)) = true := by rw [bne_iff_ne]; omega
    have f1 : (n != m) = true := by rw [bne_iff_ne]; exact hnm
    clear hnm
    go_wp2_with fail
    all_goals first | (go_ret; exact ⟨⟨_, rfl, iff_of_false (by simp) HX.out⟩, HBW.out 0⟩) | (exfalso; omega)
end Go.Proofs.Ytfkcpcdndleboaa
