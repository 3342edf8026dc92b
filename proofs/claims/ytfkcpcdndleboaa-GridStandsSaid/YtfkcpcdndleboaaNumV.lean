/- WALK: valid fractions, Less, placed boxes (printed by gen_valw.py). -/
import Derived.Test.YtfkcpcdndleboaaNumW
import Derived.Test.YtfkcpcdndleboaaGen
import Derived.Test.YtfkcpcdndleboaaBoxN
namespace Go.Proofs.Ytfkcpcdndleboaa
open Go.RowKit
/-- Is a fraction valid? -/
noncomputable def okB (f : Fr) : Bool := @decide f.ok (Classical.propDecidable _)
theorem okB_t {f : Fr} (h : f.ok) : okB f = true := by unfold okB; exact @decide_eq_true _ (Classical.propDecidable _) h
theorem okB_f {f : Fr} (h : ¬ f.ok) : okB f = false := by unfold okB; exact @decide_eq_false _ (Classical.propDecidable _) h
theorem okB_iff {f : Fr} : okB f = true ↔ f.ok := ⟨fun h => Classical.byContradiction fun h1 => (by rw [okB_f h1] at h; cases h), okB_t⟩
theorem run_eql_frac (a b c d : Int) (W : World) : (binOp .eql 52 (.agg #[.int .i64 a, .int .i64 b]) (.agg #[.int .i64 c, .int .i64 d])).run Try.prog W = .ok (.bool (decide (a = c ∧ b = d))) W := by
  simp [go_sem]
  (repeat' split) <;> simp [*]
set_option maxRecDepth 100000 in
set_option maxHeartbeats 2000000 in
theorem valid_any (f : Fr) (w : World) :
    Calls Try.prog 59 #[.agg #[.int .i64 f.n, .int .i64 f.d]] w fun e w' => e = .returned (.bool (okB f)) ∧ Below w.heap.size w w' := by
  obtain ⟨n, d⟩ := f
  simp only []
  by_cases h0 : 1 ≤ d
  rotate_left
  · have HX := hid (okB_f (f := ⟨n, d⟩) fun h => h0 h.low)
    have e0 : decide (1 ≤ d) = false := decide_eq_false h0
    clear h0
    go_enter Try.func59, Try.ntmps59
    go_wp2_with fail
    go_ret
    exact ⟨by rw [HX.out]; rfl, (Below.refl _ _).alloc (Nat.le_refl _) _⟩
  have e0 : decide (1 ≤ d) = true := decide_eq_true h0
  by_cases h1 : d ≤ 32768
  rotate_left
  · have HX := hid (okB_f (f := ⟨n, d⟩) fun h => h1 h.high)
    have e1 : decide (d ≤ 32768) = false := decide_eq_false h1
    clear h0 h1
    go_enter Try.func59, Try.ntmps59
    go_wp2_with fail
    go_ret
    exact ⟨by rw [HX.out]; rfl, (Below.refl _ _).alloc (Nat.le_refl _) _⟩
  have e1 : decide (d ≤ 32768) = true := decide_eq_true h1
  by_cases h2 : -2147483647 ≤ n
  rotate_left
  · have HX := hid (okB_f (f := ⟨n, d⟩) fun h => h2 h.lo)
    have e2 : decide (-2147483647 ≤ n) = false := decide_eq_false h2
    clear h0 h1 h2
    go_enter Try.func59, Try.ntmps59
    go_wp2_with fail
    go_ret
    exact ⟨by rw [HX.out]; rfl, (Below.refl _ _).alloc (Nat.le_refl _) _⟩
  have e2 : decide (-2147483647 ≤ n) = true := decide_eq_true h2
  by_cases h3 : n ≤ 2147483647
  rotate_left
  · have HX := hid (okB_f (f := ⟨n, d⟩) fun h => h3 h.hi)
    have e3 : decide (n ≤ 2147483647) = false := decide_eq_false h3
    clear h0 h1 h2 h3
    go_enter Try.func59, Try.ntmps59
    go_wp2_with fail
    go_ret
    exact ⟨by rw [HX.out]; rfl, (Below.refl _ _).alloc (Nat.le_refl _) _⟩
  have e3 : decide (n ≤ 2147483647) = true := decide_eq_true h3
  have HG := hid fun (W : World) => gcdP_any n d (by omega) (by omega) (by omega) (by omega) W
  by_cases h4 : (Int.gcd n d : Int) = 1
  · have HX := hid (okB_t (f := ⟨n, d⟩) ⟨h0, h1, h2, h3, by show Int.gcd n d = 1; omega⟩)
    have e4 : ((Int.gcd n d : Int) == 1) = true := by simp only [h4]; rfl
    generalize (Int.gcd n d : Int) = g at HG e4
    clear h0 h1 h2 h3 h4
    go_enter Try.func59, Try.ntmps59
    go_wp2_with (first | (go_at_call 92; refine (HG.out _).mono ?_; rintro e w2 ⟨rfl, rfl⟩))
    go_ret
    exact ⟨by rw [HX.out]; rfl, (Below.refl _ _).alloc (Nat.le_refl _) _⟩
  · have HX := hid (okB_f (f := ⟨n, d⟩) fun h => h4 (by have := h.gcd; simp only [] at this; omega))
    have e4 : ((Int.gcd n d : Int) == 1) = false := by simpa using h4
    generalize (Int.gcd n d : Int) = g at HG e4
    clear h0 h1 h2 h3 h4
    go_enter Try.func59, Try.ntmps59
    go_wp2_with (first | (go_at_call 92; refine (HG.out _).mono ?_; rintro e w2 ⟨rfl, rfl⟩))
    go_ret
    exact ⟨by rw [HX.out]; rfl, (Below.refl _ _).alloc (Nat.le_refl _) _⟩
set_option maxRecDepth 100000 in
set_option maxHeartbeats 2000000 in
theorem validR_any (f : Fr) (w : World) :
    Calls Try.prog 55 #[.agg #[.int .i64 f.n, .int .i64 f.d]] w fun e w' => e = .returned (.bool (okB f)) ∧ Below w.heap.size w w' := by
  obtain ⟨n, d⟩ := f
  simp only []
  by_cases h0 : 1 ≤ d
  rotate_left
  · have HX := hid (okB_f (f := ⟨n, d⟩) fun h => h0 h.low)
    have e0 : decide (1 ≤ d) = false := decide_eq_false h0
    clear h0
    go_enter Try.func55, Try.ntmps55
    go_upto_region 1 with (fail)
    obtain ⟨w1, hw1⟩ : ∃ w1, w1 = w.alloc (.cells #[.int .i64 n, .int .i64 d] 52) := ⟨_, rfl⟩
    have cz : ∀ z : BW w1.heap.size w1, z.val.cell? ⟨w.heap.size, 0, none⟩ = some (.int .i64 n) ∧ z.val.cell? ⟨w.heap.size, 1, none⟩ = some (.int .i64 d) := fun z => (res_two z.ok (by rw [hw1]; exact nw_blk rfl)).1
    have c1 := fun z => (cz z).1; have c2 := fun z => (cz z).2
    have HB1 := hid (show Below w.heap.size w w1 by rw [hw1]; exact (Below.refl _ _).alloc (Nat.le_refl _) _)
    rw [← hw1]
    obtain ⟨B0, hB0⟩ : ∃ B0, B0 = w.heap.size := ⟨_, rfl⟩
    rw [← hB0] at c1 c2 ⊢
    clear hw1 cz hB0
    refine region_below (by kernel_rfl) (by kernel_rfl) (Below.refl w1.heap.size w1) ?_
    repeat (go_big_quiet_step (fail))
    refine wpQuiet_nil ?_
    intro _ hw'
    obtain ⟨z, rfl⟩ := hw'
    have HZ := hid z.ok
    go_wp2_with fail
    go_ret
    exact ⟨by rw [HX.out]; rfl, HB1.out.trans (HZ.out.mono HB1.out.size)⟩
  have e0 : decide (1 ≤ d) = true := decide_eq_true h0
  by_cases h1 : d ≤ 32768
  rotate_left
  · have HX := hid (okB_f (f := ⟨n, d⟩) fun h => h1 h.high)
    have e1 : decide (d ≤ 32768) = false := decide_eq_false h1
    clear h0 h1
    go_enter Try.func55, Try.ntmps55
    go_upto_region 1 with (fail)
    obtain ⟨w1, hw1⟩ : ∃ w1, w1 = w.alloc (.cells #[.int .i64 n, .int .i64 d] 52) := ⟨_, rfl⟩
    have cz : ∀ z : BW w1.heap.size w1, z.val.cell? ⟨w.heap.size, 0, none⟩ = some (.int .i64 n) ∧ z.val.cell? ⟨w.heap.size, 1, none⟩ = some (.int .i64 d) := fun z => (res_two z.ok (by rw [hw1]; exact nw_blk rfl)).1
    have c1 := fun z => (cz z).1; have c2 := fun z => (cz z).2
    have HB1 := hid (show Below w.heap.size w w1 by rw [hw1]; exact (Below.refl _ _).alloc (Nat.le_refl _) _)
    rw [← hw1]
    obtain ⟨B0, hB0⟩ : ∃ B0, B0 = w.heap.size := ⟨_, rfl⟩
    rw [← hB0] at c1 c2 ⊢
    clear hw1 cz hB0
    refine region_below (by kernel_rfl) (by kernel_rfl) (Below.refl w1.heap.size w1) ?_
    repeat (go_big_quiet_step (fail))
    refine wpQuiet_nil ?_
    intro _ hw'
    obtain ⟨z, rfl⟩ := hw'
    have HZ := hid z.ok
    go_wp2_with fail
    go_ret
    exact ⟨by rw [HX.out]; rfl, HB1.out.trans (HZ.out.mono HB1.out.size)⟩
  have e1 : decide (d ≤ 32768) = true := decide_eq_true h1
  by_cases h2 : -2147483647 ≤ n
  rotate_left
  · have HX := hid (okB_f (f := ⟨n, d⟩) fun h => h2 h.lo)
    have e2 : decide (-2147483647 ≤ n) = false := decide_eq_false h2
    clear h0 h1 h2
    go_enter Try.func55, Try.ntmps55
    go_upto_region 1 with (fail)
    obtain ⟨w1, hw1⟩ : ∃ w1, w1 = w.alloc (.cells #[.int .i64 n, .int .i64 d] 52) := ⟨_, rfl⟩
    have cz : ∀ z : BW w1.heap.size w1, z.val.cell? ⟨w.heap.size, 0, none⟩ = some (.int .i64 n) ∧ z.val.cell? ⟨w.heap.size, 1, none⟩ = some (.int .i64 d) := fun z => (res_two z.ok (by rw [hw1]; exact nw_blk rfl)).1
    have c1 := fun z => (cz z).1; have c2 := fun z => (cz z).2
    have HB1 := hid (show Below w.heap.size w w1 by rw [hw1]; exact (Below.refl _ _).alloc (Nat.le_refl _) _)
    rw [← hw1]
    obtain ⟨B0, hB0⟩ : ∃ B0, B0 = w.heap.size := ⟨_, rfl⟩
    rw [← hB0] at c1 c2 ⊢
    clear hw1 cz hB0
    refine region_below (by kernel_rfl) (by kernel_rfl) (Below.refl w1.heap.size w1) ?_
    repeat (go_big_quiet_step (fail))
    refine wpQuiet_nil ?_
    intro _ hw'
    obtain ⟨z, rfl⟩ := hw'
    have HZ := hid z.ok
    go_wp2_with fail
    go_ret
    exact ⟨by rw [HX.out]; rfl, HB1.out.trans (HZ.out.mono HB1.out.size)⟩
  have e2 : decide (-2147483647 ≤ n) = true := decide_eq_true h2
  by_cases h3 : n ≤ 2147483647
  rotate_left
  · have HX := hid (okB_f (f := ⟨n, d⟩) fun h => h3 h.hi)
    have e3 : decide (n ≤ 2147483647) = false := decide_eq_false h3
    clear h0 h1 h2 h3
    go_enter Try.func55, Try.ntmps55
    go_upto_region 1 with (fail)
    obtain ⟨w1, hw1⟩ : ∃ w1, w1 = w.alloc (.cells #[.int .i64 n, .int .i64 d] 52) := ⟨_, rfl⟩
    have cz : ∀ z : BW w1.heap.size w1, z.val.cell? ⟨w.heap.size, 0, none⟩ = some (.int .i64 n) ∧ z.val.cell? ⟨w.heap.size, 1, none⟩ = some (.int .i64 d) := fun z => (res_two z.ok (by rw [hw1]; exact nw_blk rfl)).1
    have c1 := fun z => (cz z).1; have c2 := fun z => (cz z).2
    have HB1 := hid (show Below w.heap.size w w1 by rw [hw1]; exact (Below.refl _ _).alloc (Nat.le_refl _) _)
    rw [← hw1]
    obtain ⟨B0, hB0⟩ : ∃ B0, B0 = w.heap.size := ⟨_, rfl⟩
    rw [← hB0] at c1 c2 ⊢
    clear hw1 cz hB0
    refine region_below (by kernel_rfl) (by kernel_rfl) (Below.refl w1.heap.size w1) ?_
    repeat (go_big_quiet_step (fail))
    refine wpQuiet_nil ?_
    intro _ hw'
    obtain ⟨z, rfl⟩ := hw'
    have HZ := hid z.ok
    go_wp2_with fail
    go_ret
    exact ⟨by rw [HX.out]; rfl, HB1.out.trans (HZ.out.mono HB1.out.size)⟩
  have e3 : decide (n ≤ 2147483647) = true := decide_eq_true h3
  have HG := hid fun (W : World) => fracR_any n d (by omega) (by omega) (by omega) (by omega) W
  by_cases h4 : Int.gcd n d = 1
  · have HX := hid (okB_t (f := ⟨n, d⟩) ⟨h0, h1, h2, h3, h4⟩)
    have hq : frR n d = ⟨n, d⟩ := frR_id h4
    have HQ := hid (show decide ((frR n d).n = n ∧ (frR n d).d = d) = true from decide_eq_true ⟨by rw [hq], by rw [hq]⟩)
    generalize (frR n d).n = qn at HG HQ
    generalize (frR n d).d = qd at HG HQ
    clear h0 h1 h2 h3 h4 hq
    go_enter Try.func55, Try.ntmps55
    go_upto_region 1 with (fail)
    obtain ⟨w1, hw1⟩ : ∃ w1, w1 = w.alloc (.cells #[.int .i64 n, .int .i64 d] 52) := ⟨_, rfl⟩
    have cz : ∀ z : BW w1.heap.size w1, z.val.cell? ⟨w.heap.size, 0, none⟩ = some (.int .i64 n) ∧ z.val.cell? ⟨w.heap.size, 1, none⟩ = some (.int .i64 d) := fun z => (res_two z.ok (by rw [hw1]; exact nw_blk rfl)).1
    have c1 := fun z => (cz z).1; have c2 := fun z => (cz z).2
    have HB1 := hid (show Below w.heap.size w w1 by rw [hw1]; exact (Below.refl _ _).alloc (Nat.le_refl _) _)
    rw [← hw1]
    obtain ⟨B0, hB0⟩ : ∃ B0, B0 = w.heap.size := ⟨_, rfl⟩
    rw [← hB0] at c1 c2 ⊢
    clear hw1 cz hB0
    have HFZ := hid (below_class (wb := w1) (Nat.le_refl w1.heap.size) fun z => HG.out z.val)
    have hev := fun W => run_eql_frac qn qd n d W
    rw [HQ.out] at hev
    refine region_below (by kernel_rfl) (by kernel_rfl) (Below.refl w1.heap.size w1) ?_
    repeat (go_big_quiet_step (first | (go_at_call 86; go_must (exact (HFZ.out _)))))
    refine wpQuiet_nil ?_
    intro _ hw'
    obtain ⟨z, rfl⟩ := hw'
    have HZ := hid z.ok
    go_wp2_with fail
    go_ret
    exact ⟨by rw [HX.out]; rfl, HB1.out.trans (HZ.out.mono HB1.out.size)⟩
  · have HX := hid (okB_f (f := ⟨n, d⟩) fun h => h4 h.gcd)
    have HQ := hid (show decide ((frR n d).n = n ∧ (frR n d).d = d) = false from decide_eq_false fun hq => h4 (by have := frR_gcd (n := n) (d := d) (by omega); rw [hq.1, hq.2] at this; exact this))
    generalize (frR n d).n = qn at HG HQ
    generalize (frR n d).d = qd at HG HQ
    clear h0 h1 h2 h3 h4
    go_enter Try.func55, Try.ntmps55
    go_upto_region 1 with (fail)
    obtain ⟨w1, hw1⟩ : ∃ w1, w1 = w.alloc (.cells #[.int .i64 n, .int .i64 d] 52) := ⟨_, rfl⟩
    have cz : ∀ z : BW w1.heap.size w1, z.val.cell? ⟨w.heap.size, 0, none⟩ = some (.int .i64 n) ∧ z.val.cell? ⟨w.heap.size, 1, none⟩ = some (.int .i64 d) := fun z => (res_two z.ok (by rw [hw1]; exact nw_blk rfl)).1
    have c1 := fun z => (cz z).1; have c2 := fun z => (cz z).2
    have HB1 := hid (show Below w.heap.size w w1 by rw [hw1]; exact (Below.refl _ _).alloc (Nat.le_refl _) _)
    rw [← hw1]
    obtain ⟨B0, hB0⟩ : ∃ B0, B0 = w.heap.size := ⟨_, rfl⟩
    rw [← hB0] at c1 c2 ⊢
    clear hw1 cz hB0
    have HFZ := hid (below_class (wb := w1) (Nat.le_refl w1.heap.size) fun z => HG.out z.val)
    have hev := fun W => run_eql_frac qn qd n d W
    rw [HQ.out] at hev
    refine region_below (by kernel_rfl) (by kernel_rfl) (Below.refl w1.heap.size w1) ?_
    repeat (go_big_quiet_step (first | (go_at_call 86; go_must (exact (HFZ.out _)))))
    refine wpQuiet_nil ?_
    intro _ hw'
    obtain ⟨z, rfl⟩ := hw'
    have HZ := hid z.ok
    go_wp2_with fail
    go_ret
    exact ⟨by rw [HX.out]; rfl, HB1.out.trans (HZ.out.mono HB1.out.size)⟩
end Go.Proofs.Ytfkcpcdndleboaa

/- WALK: sums, differences, comparisons of fractions whose products are small (printed by gen_numv.py). -/
namespace Go.Proofs.Ytfkcpcdndleboaa
open Go.RowKit
/-- Products of two fractions are small. -/
structure PrdOk (a b : Fr) : Prop where
  a0 : 0 < a.d
  b0 : 0 < b.d
  pa : -1152921504606846976 ≤ a.n * b.d ∧ a.n * b.d ≤ 1152921504606846976
  pb : -1152921504606846976 ≤ b.n * a.d ∧ b.n * a.d ≤ 1152921504606846976
  pd : a.d * b.d ≤ 1152921504606846976
theorem PrdOk.prods {a b : Fr} (h : PrdOk a b) : ((-1152921504606846976 ≤ a.n * b.d ∧ a.n * b.d ≤ 1152921504606846976) ∧ -1152921504606846976 ≤ b.n * a.d ∧ b.n * a.d ≤ 1152921504606846976) ∧ 0 < a.d * b.d ∧ a.d * b.d ≤ 1152921504606846976 := ⟨⟨h.pa, h.pb⟩, Int.mul_pos h.a0 h.b0, h.pd⟩
theorem PrdOk.swap {a b : Fr} (h : PrdOk a b) : PrdOk b a := ⟨h.b0, h.a0, h.pb, h.pa, by rw [Int.mul_comm]; exact h.pd⟩
theorem PrdOk.neg {a b : Fr} (h : PrdOk a b) : PrdOk a b.neg := ⟨h.a0, h.b0, h.pa, by have := h.pb; show _ ≤ -b.n * a.d ∧ -b.n * a.d ≤ _; rw [Int.neg_mul]; omega, h.pd⟩
/-- Numbers of a fraction whose numbers are small: those of sums of valid ones, too. -/
structure FrV (f : Fr) : Prop where
  d0 : 0 < f.d
  d1 : f.d ≤ 1073741824
  n1 : f.n.natAbs ≤ 1073741824
theorem mul_bd2 {x y : Int} {a b : Nat} (hx : x.natAbs ≤ a) (hy : y.natAbs ≤ b) : -((a * b : Nat) : Int) ≤ x * y ∧ x * y ≤ ((a * b : Nat) : Int) := by
  have h := Nat.mul_le_mul hx hy
  rw [← Int.natAbs_mul] at h
  omega
/-- Bounds of the numbers of a fraction. -/
structure FrN (D M : Nat) (f : Fr) : Prop where
  d0 : 0 < f.d
  d1 : f.d ≤ D
  n1 : f.n.natAbs ≤ M
theorem FrN.prd {D M D' M' : Nat} {a b : Fr} (h : FrN D M a) (k : FrN D' M' b) (h1 : M * D' ≤ 1152921504606846976) (h2 : M' * D ≤ 1152921504606846976) (h3 : D * D' ≤ 1152921504606846976) : PrdOk a b := by
  have a0 := h.d0; have a1 := h.d1; have b0 := k.d0; have b1 := k.d1
  have e1 := mul_bd2 h.n1 (show b.d.natAbs ≤ D' by omega)
  have e2 := mul_bd2 k.n1 (show a.d.natAbs ≤ D by omega)
  have e3 := mul_bd2 (show a.d.natAbs ≤ D by omega) (show b.d.natAbs ≤ D' by omega)
  exact ⟨a0, b0, by omega, by omega, by omega⟩
theorem Fr.ok.num {f : Fr} (h : f.ok) : FrN 32768 2147483647 f := ⟨by have := h.low; omega, h.high, by have := h.lo; have := h.hi; omega⟩
theorem FrN.add {D M D' M' : Nat} {a b : Fr} (h : FrN D M a) (k : FrN D' M' b) : FrN (D * D') (M * D' + M' * D) (a.add b) := by
  have a0 := h.d0; have a1 := h.d1; have b0 := k.d0; have b1 := k.d1
  have e1 := mul_bd2 h.n1 (show b.d.natAbs ≤ D' by omega)
  have e2 := mul_bd2 k.n1 (show a.d.natAbs ≤ D by omega)
  have e3 := mul_bd2 (show a.d.natAbs ≤ D by omega) (show b.d.natAbs ≤ D' by omega)
  have p := Int.mul_pos a0 b0
  have c1 := frR_pos (n := a.n * b.d + b.n * a.d) p
  have c2 := frR_le (n := a.n * b.d + b.n * a.d) p
  have c3 := frR_abs (n := a.n * b.d + b.n * a.d) p
  exact ⟨c1, by show (frR _ _).d ≤ _; omega, by show (frR _ _).n.natAbs ≤ _; omega⟩
theorem FrN.neg {D M : Nat} {a : Fr} (h : FrN D M a) : FrN D M a.neg := ⟨h.d0, h.d1, by show (-a.n).natAbs ≤ _; rw [Int.natAbs_neg]; exact h.n1⟩
theorem FrN.more {D M D' M' : Nat} {a : Fr} (h : FrN D M a) (h1 : D ≤ D') (h2 : M ≤ M') : FrN D' M' a := ⟨h.d0, by have := h.d1; omega, by have := h.n1; omega⟩
theorem cmp_lt {x y : Fr} : cmpF x y < 0 ↔ x.lt y := by
  unfold cmpF
  by_cases h1 : x.lt y
  · rw [if_pos h1]; exact ⟨fun _ => h1, fun _ => by omega⟩
  · rw [if_neg h1]
    split
    · exact ⟨fun h => by omega, fun h => absurd h h1⟩
    · exact ⟨fun h => by omega, fun h => absurd h h1⟩
theorem cmp_le {x y : Fr} : cmpF x y ≤ 0 ↔ ¬ y.lt x := by
  have := cmp_gt (x := x) (y := y)
  constructor
  · intro h h2; have := this.2 h2; omega
  · intro h; have h3 : ¬ 0 < cmpF x y := fun h4 => h (this.1 h4); omega
set_option maxRecDepth 100000 in
set_option maxHeartbeats 1000000 in
theorem addV_any (a b : Fr) (h : PrdOk a b) (w : World) :
    Calls Try.prog 69 #[.agg #[.int .i64 a.n, .int .i64 a.d], .agg #[.int .i64 b.n, .int .i64 b.d]] w fun e w' => e = .returned (.agg #[.int .i64 (a.add b).n, .int .i64 (a.add b).d]) ∧ Below w.heap.size w w' := by
  obtain ⟨⟨⟨p1, p2⟩, p3, p4⟩, p5, p6⟩ := h.prods
  have HF := hid (fun W : World => fracP_any (a.n * b.d + b.n * a.d) (a.d * b.d) (by omega) (by omega) p5 (by omega) W)
  have e : frR (a.n * b.d + b.n * a.d) (a.d * b.d) = a.add b := rfl
  rw [e] at HF
  generalize a.add b = q at HF ⊢
  clear e h
  obtain ⟨an, ad⟩ := a
  obtain ⟨bn, bd⟩ := b
  obtain ⟨qn, qd⟩ := q
  simp only [] at p1 p2 p3 p4 p5 p6 HF ⊢
  obtain ⟨x, hx⟩ : ∃ x, x = an * bd := ⟨_, rfl⟩
  obtain ⟨y, hy⟩ : ∃ x, x = bn * ad := ⟨_, rfl⟩
  obtain ⟨z, hz⟩ : ∃ x, x = ad * bd := ⟨_, rfl⟩
  rw [← hx, ← hy, ← hz] at HF
  rw [← hx] at p1 p2
  rw [← hy] at p3 p4
  rw [← hz] at p5 p6
  have x1 := hx.symm; have y1 := hy.symm; have z1 := hz.symm
  clear hx hy hz
  go_enter Try.func69, Try.ntmps69
  go_wp2_with (first | (go_at_call 103; refine (HF.out _).mono ?_; rintro e w2 ⟨rfl, hb2⟩; have HB2 := hid hb2; obtain ⟨⟨k1, k2⟩, ⟨k3, k4⟩, k5⟩ := res_two (b := w.heap.size + 1 + 1) hb2 (nw_blk (by simp)); clear hb2))
  have q1 := World.cell?_setCell_same _ _ (.int .i64 qn) k1
  exact bodyPost_ret (v := .agg #[.int .i64 qn, .int .i64 qd]) (by simp [results, Try.results69, go_sem, k2, q1]) rfl ⟨rfl, (((((((Below.refl _ _).alloc (Nat.le_refl _) _).alloc (by simp) _).alloc (by simp; omega) _).trans (HB2.out.mono (by simp; omega))).setCell (by simp; omega) _).setCell (by simp; omega) _)⟩
set_option maxRecDepth 100000 in
set_option maxHeartbeats 1000000 in
theorem subV_any (a b : Fr) (h : PrdOk a b) (hbn0 : b.n.natAbs ≤ 1152921504606846976) (w : World) :
    Calls Try.prog 72 #[.agg #[.int .i64 a.n, .int .i64 a.d], .agg #[.int .i64 b.n, .int .i64 b.d]] w fun e w' => e = .returned (.agg #[.int .i64 (a.sub b).n, .int .i64 (a.sub b).d]) ∧ Below w.heap.size w w' := by
  have HF := hid (fun W : World => addV_any a b.neg (PrdOk.neg h) W)
  rw [← sub_add] at HF
  have hbn := hbn0
  unfold Fr.neg at HF
  generalize a.sub b = q at HF ⊢
  clear h
  obtain ⟨an, ad⟩ := a
  obtain ⟨bn, bd⟩ := b
  obtain ⟨qn, qd⟩ := q
  simp only [] at HF hbn ⊢
  have h1 : -1152921504606846976 ≤ bn := by omega
  have h2 : bn ≤ 1152921504606846976 := by omega
  clear hbn
  go_enter Try.func72, Try.ntmps72
  go_wp2_with (first | (go_at_call 69; refine (HF.out _).mono ?_; rintro e w2 ⟨rfl, hb2⟩; have HB2 := hid hb2; obtain ⟨⟨k1, k2⟩, ⟨k3, k4⟩, k5⟩ := res_two (b := w.heap.size + 1 + 1) hb2 (nw_blk (by simp)); clear hb2))
  have q1 := World.cell?_setCell_same _ _ (.int .i64 qn) k1
  exact bodyPost_ret (v := .agg #[.int .i64 qn, .int .i64 qd]) (by simp [results, Try.results72, go_sem, k2, q1]) rfl ⟨rfl, (((((((Below.refl _ _).alloc (Nat.le_refl _) _).alloc (by simp) _).alloc (by simp; omega) _).trans (HB2.out.mono (by simp; omega))).setCell (by simp; omega) _).setCell (by simp; omega) _)⟩
set_option maxRecDepth 100000 in
set_option maxHeartbeats 1000000 in
theorem compareV_any (a b : Fr) (h : PrdOk a b) (w : World) :
    Calls Try.prog 60 #[.agg #[.int .i64 a.n, .int .i64 a.d], .agg #[.int .i64 b.n, .int .i64 b.d]] w fun e w' => e = .returned (.int .i64 (cmpF a b)) ∧ Below w.heap.size w w' := by
  obtain ⟨⟨⟨p1, p2⟩, p3, p4⟩, p5, p6⟩ := h.prods
  have hc : cmpF a b = if a.n * b.d < b.n * a.d then -1 else if b.n * a.d < a.n * b.d then 1 else 0 := rfl
  rw [hc]
  clear h hc
  obtain ⟨an, ad⟩ := a
  obtain ⟨bn, bd⟩ := b
  simp only [] at p1 p2 p3 p4 ⊢
  have HB := hid fun (q : Nat) => below_drewN (((Below.refl w.heap.size w).alloc (Nat.le_refl _) (.cells #[.int .i64 an, .int .i64 ad] 52)).alloc (by simp) (.cells #[.int .i64 bn, .int .i64 bd] 52)) q
  obtain ⟨x, hx⟩ : ∃ x, x = an * bd := ⟨_, rfl⟩
  obtain ⟨y, hy⟩ : ∃ x, x = bn * ad := ⟨_, rfl⟩
  rw [← hx] at p1 p2
  rw [← hy] at p3 p4
  rw [← hx, ← hy]
  have x1 := hx.symm; have y1 := hy.symm
  clear hx hy p5 p6
  by_cases h1 : x < y
  · rw [if_pos h1]
    go_enter Try.func60, Try.ntmps60
    go_wp2_with fail
    go_quiet (fail)
    go_wp2_with fail
    go_ret
    exact ⟨rfl, HB.out _⟩
  · rw [if_neg h1]
    have g1 : decide (x < y) = false := decide_eq_false h1
    by_cases h2 : y < x
    · rw [if_pos h2]
      go_enter Try.func60, Try.ntmps60
      go_wp2_with fail
      go_quiet (fail)
      go_wp2_with fail
      go_ret
      exact ⟨rfl, HB.out _⟩
    · rw [if_neg h2]
      have g2 : decide (y < x) = false := decide_eq_false h2
      go_enter Try.func60, Try.ntmps60
      go_wp2_with fail
      go_quiet (fail)
      go_wp2_with fail
      go_ret
      exact ⟨rfl, HB.out _⟩
set_option maxRecDepth 100000 in
set_option maxHeartbeats 1000000 in
theorem leastV_any (a b : Fr) (h : PrdOk a b) (w : World) :
    Calls Try.prog 70 #[.agg #[.int .i64 a.n, .int .i64 a.d], .agg #[.int .i64 b.n, .int .i64 b.d]] w fun e w' => e = .returned (.agg #[.int .i64 (minF a b).n, .int .i64 (minF a b).d]) ∧ Below w.heap.size w w' := by
  have HF := hid (fun W : World => compareV_any b a h.swap W)
  have hm : minF a b = if cmpF b a < 0 then b else a := by
    unfold minF cmpF
    by_cases h1 : b.lt a
    · rw [if_pos h1, if_pos h1, if_pos (by decide)]
    · rw [if_neg h1, if_neg h1]
      split
      · rw [if_neg (by decide)]
      · rw [if_neg (by decide)]
  rw [hm]
  generalize cmpF b a = c at HF ⊢
  clear h hm
  obtain ⟨an, ad⟩ := a
  obtain ⟨bn, bd⟩ := b
  simp only [] at HF ⊢
  by_cases hc : c < 0
  · rw [if_pos hc]
    have g1 : decide (c < 0) = true := decide_eq_true hc
    go_enter Try.func70, Try.ntmps70
    go_wp2_with (first | (go_at_call 60; refine (HF.out _).mono ?_; rintro e w2 ⟨rfl, hb2⟩; have HB2 := hid hb2; obtain ⟨⟨k1, k2⟩, ⟨k3, k4⟩, k5⟩ := res_two (b := w.heap.size + 1 + 1) hb2 (nw_blk (by simp)); obtain ⟨⟨j1, j2⟩, _, j5⟩ := res_two (b := w.heap.size + 1) hb2 (old_blk (nw_blk (by simp))); clear hb2))
    have q1 := World.cell?_setCell_same _ _ (.int .i64 bn) k1
    exact bodyPost_ret (v := .agg #[.int .i64 bn, .int .i64 bd]) (by simp [results, Try.results70, go_sem, k2, q1]) rfl ⟨rfl, (((((((Below.refl _ _).alloc (Nat.le_refl _) _).alloc (by simp) _).alloc (by simp; omega) _).trans (HB2.out.mono (by simp; omega))).setCell (by simp; omega) _).setCell (by simp; omega) _)⟩
  · rw [if_neg hc]
    have g1 : decide (c < 0) = false := decide_eq_false hc
    go_enter Try.func70, Try.ntmps70
    go_wp2_with (first | (go_at_call 60; refine (HF.out _).mono ?_; rintro e w2 ⟨rfl, hb2⟩; have HB2 := hid hb2; obtain ⟨⟨k1, k2⟩, ⟨k3, k4⟩, k5⟩ := res_two (b := w.heap.size + 1 + 1) hb2 (nw_blk (by simp)); obtain ⟨⟨j1, j2⟩, _, j5⟩ := res_two (b := w.heap.size) hb2 (old_blk (old_blk (nw_blk (by simp)))); clear hb2))
    have q1 := World.cell?_setCell_same _ _ (.int .i64 an) k1
    exact bodyPost_ret (v := .agg #[.int .i64 an, .int .i64 ad]) (by simp [results, Try.results70, go_sem, k2, q1]) rfl ⟨rfl, (((((((Below.refl _ _).alloc (Nat.le_refl _) _).alloc (by simp) _).alloc (by simp; omega) _).trans (HB2.out.mono (by simp; omega))).setCell (by simp; omega) _).setCell (by simp; omega) _)⟩
set_option maxRecDepth 100000 in
set_option maxHeartbeats 1000000 in
theorem mostV_any (a b : Fr) (h : PrdOk a b) (w : World) :
    Calls Try.prog 71 #[.agg #[.int .i64 a.n, .int .i64 a.d], .agg #[.int .i64 b.n, .int .i64 b.d]] w fun e w' => e = .returned (.agg #[.int .i64 (maxF a b).n, .int .i64 (maxF a b).d]) ∧ Below w.heap.size w w' := by
  have HF := hid (fun W : World => compareV_any b a h.swap W)
  have hm : maxF a b = if 0 < cmpF b a then b else a := by
    unfold maxF cmpF
    by_cases h1 : a.lt b
    · have h2 : ¬ b.lt a := by unfold Fr.lt at h1 ⊢; omega
      rw [if_pos h1, if_neg h2, if_pos h1, if_pos (by decide)]
    · rw [if_neg h1]
      split
      · rw [if_neg (by decide)]
      · rw [if_neg (by decide)]
  rw [hm]
  generalize cmpF b a = c at HF ⊢
  clear h hm
  obtain ⟨an, ad⟩ := a
  obtain ⟨bn, bd⟩ := b
  simp only [] at HF ⊢
  by_cases hc : 0 < c
  · rw [if_pos hc]
    have g1 : decide (0 < c) = true := decide_eq_true hc
    go_enter Try.func71, Try.ntmps71
    go_wp2_with (first | (go_at_call 60; refine (HF.out _).mono ?_; rintro e w2 ⟨rfl, hb2⟩; have HB2 := hid hb2; obtain ⟨⟨k1, k2⟩, ⟨k3, k4⟩, k5⟩ := res_two (b := w.heap.size + 1 + 1) hb2 (nw_blk (by simp)); obtain ⟨⟨j1, j2⟩, _, j5⟩ := res_two (b := w.heap.size + 1) hb2 (old_blk (nw_blk (by simp))); clear hb2))
    have q1 := World.cell?_setCell_same _ _ (.int .i64 bn) k1
    exact bodyPost_ret (v := .agg #[.int .i64 bn, .int .i64 bd]) (by simp [results, Try.results71, go_sem, k2, q1]) rfl ⟨rfl, (((((((Below.refl _ _).alloc (Nat.le_refl _) _).alloc (by simp) _).alloc (by simp; omega) _).trans (HB2.out.mono (by simp; omega))).setCell (by simp; omega) _).setCell (by simp; omega) _)⟩
  · rw [if_neg hc]
    have g1 : decide (0 < c) = false := decide_eq_false hc
    go_enter Try.func71, Try.ntmps71
    go_wp2_with (first | (go_at_call 60; refine (HF.out _).mono ?_; rintro e w2 ⟨rfl, hb2⟩; have HB2 := hid hb2; obtain ⟨⟨k1, k2⟩, ⟨k3, k4⟩, k5⟩ := res_two (b := w.heap.size + 1 + 1) hb2 (nw_blk (by simp)); obtain ⟨⟨j1, j2⟩, _, j5⟩ := res_two (b := w.heap.size) hb2 (old_blk (old_blk (nw_blk (by simp)))); clear hb2))
    have q1 := World.cell?_setCell_same _ _ (.int .i64 an) k1
    exact bodyPost_ret (v := .agg #[.int .i64 an, .int .i64 ad]) (by simp [results, Try.results71, go_sem, k2, q1]) rfl ⟨rfl, (((((((Below.refl _ _).alloc (Nat.le_refl _) _).alloc (by simp) _).alloc (by simp; omega) _).trans (HB2.out.mono (by simp; omega))).setCell (by simp; omega) _).setCell (by simp; omega) _)⟩
set_option maxRecDepth 100000 in
set_option maxHeartbeats 1000000 in
theorem addW_any (a b : Fr) (h : PrdOk a b) (w : World) :
    Calls Try.prog 56 #[.agg #[.int .i64 a.n, .int .i64 a.d], .agg #[.int .i64 b.n, .int .i64 b.d]] w fun e w' => e = .returned (.agg #[.int .i64 (a.add b).n, .int .i64 (a.add b).d]) ∧ Below w.heap.size w w' := by
  obtain ⟨⟨⟨p1, p2⟩, p3, p4⟩, p5, p6⟩ := h.prods
  have HF := hid (fun W : World => fracR_any (a.n * b.d + b.n * a.d) (a.d * b.d) (by omega) (by omega) p5 (by omega) W)
  have e : frR (a.n * b.d + b.n * a.d) (a.d * b.d) = a.add b := rfl
  rw [e] at HF
  generalize a.add b = q at HF ⊢
  clear e h
  obtain ⟨an, ad⟩ := a
  obtain ⟨bn, bd⟩ := b
  obtain ⟨qn, qd⟩ := q
  simp only [] at p1 p2 p3 p4 p5 p6 HF ⊢
  obtain ⟨x, hx⟩ : ∃ x, x = an * bd := ⟨_, rfl⟩
  obtain ⟨y, hy⟩ : ∃ x, x = bn * ad := ⟨_, rfl⟩
  obtain ⟨z, hz⟩ : ∃ x, x = ad * bd := ⟨_, rfl⟩
  rw [← hx, ← hy, ← hz] at HF
  rw [← hx] at p1 p2
  rw [← hy] at p3 p4
  rw [← hz] at p5 p6
  have x1 := hx.symm; have y1 := hy.symm; have z1 := hz.symm
  clear hx hy hz
  go_enter Try.func56, Try.ntmps56
  go_wp2_with (first | (go_at_call 86; refine (HF.out _).mono ?_; rintro e w2 ⟨rfl, hb2⟩; have HB2 := hid hb2; obtain ⟨⟨k1, k2⟩, ⟨k3, k4⟩, k5⟩ := res_two (b := w.heap.size + 1 + 1) hb2 (nw_blk (by simp)); clear hb2))
  have q1 := World.cell?_setCell_same _ _ (.int .i64 qn) k1
  exact bodyPost_ret (v := .agg #[.int .i64 qn, .int .i64 qd]) (by simp [results, Try.results56, go_sem, k2, q1]) rfl ⟨rfl, (((((((Below.refl _ _).alloc (Nat.le_refl _) _).alloc (by simp) _).alloc (by simp; omega) _).trans (HB2.out.mono (by simp; omega))).setCell (by simp; omega) _).setCell (by simp; omega) _)⟩
set_option maxRecDepth 100000 in
set_option maxHeartbeats 1000000 in
theorem subW_any (a b : Fr) (h : PrdOk a b) (w : World) :
    Calls Try.prog 74 #[.agg #[.int .i64 a.n, .int .i64 a.d], .agg #[.int .i64 b.n, .int .i64 b.d]] w fun e w' => e = .returned (.agg #[.int .i64 (a.sub b).n, .int .i64 (a.sub b).d]) ∧ Below w.heap.size w w' := by
  obtain ⟨⟨⟨p1, p2⟩, p3, p4⟩, p5, p6⟩ := h.prods
  have HF := hid (fun W : World => fracR_any (a.n * b.d - b.n * a.d) (a.d * b.d) (by omega) (by omega) p5 (by omega) W)
  have e : frR (a.n * b.d - b.n * a.d) (a.d * b.d) = a.sub b := by unfold Fr.sub; rw [Int.neg_mul]; rfl
  rw [e] at HF
  generalize a.sub b = q at HF ⊢
  clear e h
  obtain ⟨an, ad⟩ := a
  obtain ⟨bn, bd⟩ := b
  obtain ⟨qn, qd⟩ := q
  simp only [] at p1 p2 p3 p4 p5 p6 HF ⊢
  obtain ⟨x, hx⟩ : ∃ x, x = an * bd := ⟨_, rfl⟩
  obtain ⟨y, hy⟩ : ∃ x, x = bn * ad := ⟨_, rfl⟩
  obtain ⟨z, hz⟩ : ∃ x, x = ad * bd := ⟨_, rfl⟩
  rw [← hx, ← hy, ← hz] at HF
  rw [← hx] at p1 p2
  rw [← hy] at p3 p4
  rw [← hz] at p5 p6
  have x1 := hx.symm; have y1 := hy.symm; have z1 := hz.symm
  clear hx hy hz
  go_enter Try.func74, Try.ntmps74
  go_wp2_with (first | (go_at_call 86; refine (HF.out _).mono ?_; rintro e w2 ⟨rfl, hb2⟩; have HB2 := hid hb2; obtain ⟨⟨k1, k2⟩, ⟨k3, k4⟩, k5⟩ := res_two (b := w.heap.size + 1 + 1) hb2 (nw_blk (by simp)); clear hb2))
  have q1 := World.cell?_setCell_same _ _ (.int .i64 qn) k1
  exact bodyPost_ret (v := .agg #[.int .i64 qn, .int .i64 qd]) (by simp [results, Try.results74, go_sem, k2, q1]) rfl ⟨rfl, (((((((Below.refl _ _).alloc (Nat.le_refl _) _).alloc (by simp) _).alloc (by simp; omega) _).trans (HB2.out.mono (by simp; omega))).setCell (by simp; omega) _).setCell (by simp; omega) _)⟩
set_option maxRecDepth 100000 in
set_option maxHeartbeats 1000000 in
theorem lessW_any (a b : Fr) (h : PrdOk a b) (w : World) :
    Calls Try.prog 57 #[.agg #[.int .i64 a.n, .int .i64 a.d], .agg #[.int .i64 b.n, .int .i64 b.d]] w fun e w' => e = .returned (.bool (decide (a.lt b))) ∧ Below w.heap.size w w' := by
  obtain ⟨⟨⟨p1, p2⟩, p3, p4⟩, p5, p6⟩ := h.prods
  have hc : decide (a.lt b) = decide (a.n * b.d < b.n * a.d) := rfl
  rw [hc]
  clear h hc
  obtain ⟨an, ad⟩ := a
  obtain ⟨bn, bd⟩ := b
  simp only [] at p1 p2 p3 p4 ⊢
  obtain ⟨x, hx⟩ : ∃ x, x = an * bd := ⟨_, rfl⟩
  obtain ⟨y, hy⟩ : ∃ x, x = bn * ad := ⟨_, rfl⟩
  rw [← hx] at p1 p2
  rw [← hy] at p3 p4
  rw [← hx, ← hy]
  have x1 := hx.symm; have y1 := hy.symm
  clear hx hy p5 p6
  go_enter Try.func57, Try.ntmps57
  go_wp2_with fail
  go_ret
  exact ⟨rfl, ((Below.refl _ _).alloc (Nat.le_refl _) _).alloc (by simp) _⟩
end Go.Proofs.Ytfkcpcdndleboaa

/- WALK: Less, on both sides (printed by gen_lessw.py). -/
namespace Go.Proofs.Ytfkcpcdndleboaa
open Go.RowKit
noncomputable def lsV (f g : Fr) : Bool := okB f && okB g && decide (f.lt g)
noncomputable def lsE (f g : Fr) : Int := if okB f = true ∧ okB g = true then 0 else 1
set_option maxRecDepth 100000 in
set_option maxHeartbeats 1000000 in
theorem lessL_any (f g : Fr) (w : World) :
    Calls Try.prog 26 #[.agg #[.int .i64 f.n, .int .i64 f.d], .agg #[.int .i64 g.n, .int .i64 g.d]] w fun e w' => e = .returned (.tuple #[.bool (lsV f g), .int .i64 (lsE f g)]) ∧ Below w.heap.size w w' := by
  obtain ⟨w1, hw1⟩ : ∃ w1, w1 = (w.alloc (.cells #[.int .i64 f.n, .int .i64 f.d] 52)).alloc (.cells #[.int .i64 g.n, .int .i64 g.d] 52) := ⟨_, rfl⟩
  have hb1 : Below w.heap.size w w1 := by rw [hw1]; exact ((Below.refl _ _).alloc (Nat.le_refl _) _).alloc (by simp) _
  have h0 : FrB w1 w.heap.size f := by rw [hw1]; exact old_blk (nw_blk rfl)
  have h1 : FrB w1 (w.heap.size + 1) g := by rw [hw1]; exact nw_blk (by simp)
  have HC := hid fun (W : World) (h : Below w1.heap.size w1 W) => (show (W.cell? ⟨w.heap.size, 0, none⟩ = some (.int .i64 f.n) ∧ W.cell? ⟨w.heap.size, 1, none⟩ = some (.int .i64 f.d)) ∧ W.cell? ⟨w.heap.size + 1, 0, none⟩ = some (.int .i64 g.n) ∧ W.cell? ⟨w.heap.size + 1, 1, none⟩ = some (.int .i64 g.d) from ⟨(h0.below h).cells.1, (h1.below h).cells.1⟩)
  have HVA := hid fun W : World => valid_any f W
  have HVB := hid fun W : World => valid_any g W
  have HCM := hid fun (hf : okB f = true) (hg : okB g = true) (W : World) => compareV_any f g ((okB_iff.1 hf).num.prd (okB_iff.1 hg).num (by decide) (by decide) (by decide)) W
  have HLT := hid (cmp_lt (x := f) (y := g))
  have HV0 := hid (show okB f = false → lsV f g = false ∧ lsE f g = 1 from fun h => ⟨by unfold lsV; rw [h]; rfl, if_neg (by rw [h]; simp)⟩)
  have HV1 := hid (show okB g = false → lsV f g = false ∧ lsE f g = 1 from fun h => ⟨by unfold lsV; rw [h]; simp, if_neg (by rw [h]; simp)⟩)
  have HV2 := hid (show okB f = true → okB g = true → lsV f g = decide (f.lt g) ∧ lsE f g = 0 from fun h k => ⟨by unfold lsV; rw [h, k]; simp, if_pos ⟨h, k⟩⟩)
  have HW1 := hid hw1; have HB1 := hid hb1
  clear hw1 hb1 h0 h1
  obtain ⟨B0, hB0⟩ : ∃ B0, B0 = w.heap.size := ⟨_, rfl⟩
  obtain ⟨B1, hB1⟩ : ∃ B1, B1 = B0 + 1 := ⟨_, rfl⟩
  have HB0 := hid hB0; have HBB := hid hB1
  rw [← hB0] at HC
  rw [← hB1] at HC
  clear hB0 hB1
  cases e1 : okB f with
  | false =>
    have HX := hid (HV0.out e1)
    clear HCM HV1 HV2 HV0 HVB
    go_enter Try.func26, Try.ntmps26
    go_upto_region 1 with (fail)
    rw [← HW1.out, ← HB0.out, ← HBB.out]
    obtain ⟨⟨p0, p1⟩, p2, p3⟩ := HC.out w1 (Below.refl _ _)
    go_wp2_with (first | (go_at_call 59; with_reducible refine (HVA.out _).mono ?_; rintro e w2 ⟨rfl, hb2⟩; have HB2 := hid hb2; obtain ⟨⟨q0, q1⟩, q2, q3⟩ := HC.out w2 hb2; clear hb2 p0 p1 p2 p3))
    go_ret2
    exact ⟨by rw [HX.out.1, HX.out.2]; rfl, HB1.out.trans (HB2.out.mono HB1.out.size)⟩
  | true =>
    cases e2 : okB g with
    | false =>
      have HX := hid (HV1.out e2)
      clear HCM HV1 HV2 HV0
      go_enter Try.func26, Try.ntmps26
      go_upto_region 1 with (fail)
      rw [← HW1.out, ← HB0.out, ← HBB.out]
      obtain ⟨⟨p0, p1⟩, p2, p3⟩ := HC.out w1 (Below.refl _ _)
      go_wp2_with (first | (go_at_call 59; with_reducible refine (HVA.out _).mono ?_; rintro e w2 ⟨rfl, hb2⟩; have HB2 := hid hb2; obtain ⟨⟨q0, q1⟩, q2, q3⟩ := HC.out w2 hb2; clear hb2 p0 p1 p2 p3) | (go_at_call 59; with_reducible refine (HVB.out _).mono ?_; rintro e w3 ⟨rfl, hb3⟩; have HB3 := hid (bnext0 HB2.out hb3); obtain ⟨⟨r0, r1⟩, r2, r3⟩ := HC.out w3 HB3.out; clear hb3 q0 q1 q2 q3))
      go_ret2
      exact ⟨by rw [HX.out.1, HX.out.2]; rfl, HB1.out.trans (HB3.out.mono HB1.out.size)⟩
    | true =>
      have HX := hid (HV2.out e1 e2)
      have HCC := hid (HCM.out e1 e2)
      clear HCM HV1 HV2 HV0
      by_cases hl : f.lt g
      · have e3 : decide (cmpF f g < 0) = true := decide_eq_true (HLT.out.2 hl)
        have HL := hid (show decide (f.lt g) = true from decide_eq_true hl)
        generalize cmpF f g = cm at *
        clear hl
        go_enter Try.func26, Try.ntmps26
        go_upto_region 1 with (fail)
        rw [← HW1.out, ← HB0.out, ← HBB.out]
        obtain ⟨⟨p0, p1⟩, p2, p3⟩ := HC.out w1 (Below.refl _ _)
        go_wp2_with (first | (go_at_call 59; with_reducible refine (HVA.out _).mono ?_; rintro e w2 ⟨rfl, hb2⟩; have HB2 := hid hb2; obtain ⟨⟨q0, q1⟩, q2, q3⟩ := HC.out w2 hb2; clear hb2 p0 p1 p2 p3) | (go_at_call 59; with_reducible refine (HVB.out _).mono ?_; rintro e w3 ⟨rfl, hb3⟩; have HB3 := hid (bnext0 HB2.out hb3); obtain ⟨⟨r0, r1⟩, r2, r3⟩ := HC.out w3 HB3.out; clear hb3 q0 q1 q2 q3) | (go_at_call 60; with_reducible refine (HCC.out _).mono ?_; rintro e w4 ⟨rfl, hb4⟩; have HB4 := hid (bnext0 HB3.out hb4); clear hb4 r0 r1 r2 r3))
        go_ret2
        exact ⟨by rw [HX.out.1, HX.out.2, HL.out]; rfl, HB1.out.trans (HB4.out.mono HB1.out.size)⟩
      · have e3 : decide (cmpF f g < 0) = false := decide_eq_false fun h => hl (HLT.out.1 h)
        have HL := hid (show decide (f.lt g) = false from decide_eq_false hl)
        generalize cmpF f g = cm at *
        clear hl
        go_enter Try.func26, Try.ntmps26
        go_upto_region 1 with (fail)
        rw [← HW1.out, ← HB0.out, ← HBB.out]
        obtain ⟨⟨p0, p1⟩, p2, p3⟩ := HC.out w1 (Below.refl _ _)
        go_wp2_with (first | (go_at_call 59; with_reducible refine (HVA.out _).mono ?_; rintro e w2 ⟨rfl, hb2⟩; have HB2 := hid hb2; obtain ⟨⟨q0, q1⟩, q2, q3⟩ := HC.out w2 hb2; clear hb2 p0 p1 p2 p3) | (go_at_call 59; with_reducible refine (HVB.out _).mono ?_; rintro e w3 ⟨rfl, hb3⟩; have HB3 := hid (bnext0 HB2.out hb3); obtain ⟨⟨r0, r1⟩, r2, r3⟩ := HC.out w3 HB3.out; clear hb3 q0 q1 q2 q3) | (go_at_call 60; with_reducible refine (HCC.out _).mono ?_; rintro e w4 ⟨rfl, hb4⟩; have HB4 := hid (bnext0 HB3.out hb4); clear hb4 r0 r1 r2 r3))
        go_ret2
        exact ⟨by rw [HX.out.1, HX.out.2, HL.out]; rfl, HB1.out.trans (HB4.out.mono HB1.out.size)⟩
set_option maxRecDepth 100000 in
set_option maxHeartbeats 1000000 in
theorem lessM_any (f g : Fr) (w : World) :
    Calls Try.prog 27 #[.agg #[.int .i64 f.n, .int .i64 f.d], .agg #[.int .i64 g.n, .int .i64 g.d]] w fun e w' => e = .returned (.tuple #[.bool (lsV f g), .int .i64 (lsE f g)]) ∧ Below w.heap.size w w' := by
  obtain ⟨w1, hw1⟩ : ∃ w1, w1 = (w.alloc (.cells #[.int .i64 f.n, .int .i64 f.d] 52)).alloc (.cells #[.int .i64 g.n, .int .i64 g.d] 52) := ⟨_, rfl⟩
  have hb1 : Below w.heap.size w w1 := by rw [hw1]; exact ((Below.refl _ _).alloc (Nat.le_refl _) _).alloc (by simp) _
  have h0 : FrB w1 w.heap.size f := by rw [hw1]; exact old_blk (nw_blk rfl)
  have h1 : FrB w1 (w.heap.size + 1) g := by rw [hw1]; exact nw_blk (by simp)
  have HC := hid fun (W : World) (h : Below w1.heap.size w1 W) => (show (W.cell? ⟨w.heap.size, 0, none⟩ = some (.int .i64 f.n) ∧ W.cell? ⟨w.heap.size, 1, none⟩ = some (.int .i64 f.d)) ∧ W.cell? ⟨w.heap.size + 1, 0, none⟩ = some (.int .i64 g.n) ∧ W.cell? ⟨w.heap.size + 1, 1, none⟩ = some (.int .i64 g.d) from ⟨(h0.below h).cells.1, (h1.below h).cells.1⟩)
  have HVA := hid fun W : World => validR_any f W
  have HVB := hid fun W : World => validR_any g W
  have HCM := hid fun (hf : okB f = true) (hg : okB g = true) (W : World) => lessW_any f g ((okB_iff.1 hf).num.prd (okB_iff.1 hg).num (by decide) (by decide) (by decide)) W
  have HLT := hid (cmp_lt (x := f) (y := g))
  have HV0 := hid (show okB f = false → lsV f g = false ∧ lsE f g = 1 from fun h => ⟨by unfold lsV; rw [h]; rfl, if_neg (by rw [h]; simp)⟩)
  have HV1 := hid (show okB g = false → lsV f g = false ∧ lsE f g = 1 from fun h => ⟨by unfold lsV; rw [h]; simp, if_neg (by rw [h]; simp)⟩)
  have HV2 := hid (show okB f = true → okB g = true → lsV f g = decide (f.lt g) ∧ lsE f g = 0 from fun h k => ⟨by unfold lsV; rw [h, k]; simp, if_pos ⟨h, k⟩⟩)
  have HW1 := hid hw1; have HB1 := hid hb1
  clear hw1 hb1 h0 h1
  obtain ⟨B0, hB0⟩ : ∃ B0, B0 = w.heap.size := ⟨_, rfl⟩
  obtain ⟨B1, hB1⟩ : ∃ B1, B1 = B0 + 1 := ⟨_, rfl⟩
  have HB0 := hid hB0; have HBB := hid hB1
  rw [← hB0] at HC
  rw [← hB1] at HC
  clear hB0 hB1
  cases e1 : okB f with
  | false =>
    have HX := hid (HV0.out e1)
    clear HCM HV1 HV2 HV0 HVB
    go_enter Try.func27, Try.ntmps27
    go_upto_region 1 with (fail)
    rw [← HW1.out, ← HB0.out, ← HBB.out]
    obtain ⟨⟨p0, p1⟩, p2, p3⟩ := HC.out w1 (Below.refl _ _)
    go_wp2_with (first | (go_at_call 55; with_reducible refine (HVA.out _).mono ?_; rintro e w2 ⟨rfl, hb2⟩; have HB2 := hid hb2; obtain ⟨⟨q0, q1⟩, q2, q3⟩ := HC.out w2 hb2; clear hb2 p0 p1 p2 p3))
    go_ret2
    exact ⟨by rw [HX.out.1, HX.out.2]; rfl, HB1.out.trans (HB2.out.mono HB1.out.size)⟩
  | true =>
    cases e2 : okB g with
    | false =>
      have HX := hid (HV1.out e2)
      clear HCM HV1 HV2 HV0
      go_enter Try.func27, Try.ntmps27
      go_upto_region 1 with (fail)
      rw [← HW1.out, ← HB0.out, ← HBB.out]
      obtain ⟨⟨p0, p1⟩, p2, p3⟩ := HC.out w1 (Below.refl _ _)
      go_wp2_with (first | (go_at_call 55; with_reducible refine (HVA.out _).mono ?_; rintro e w2 ⟨rfl, hb2⟩; have HB2 := hid hb2; obtain ⟨⟨q0, q1⟩, q2, q3⟩ := HC.out w2 hb2; clear hb2 p0 p1 p2 p3) | (go_at_call 55; with_reducible refine (HVB.out _).mono ?_; rintro e w3 ⟨rfl, hb3⟩; have HB3 := hid (bnext0 HB2.out hb3); obtain ⟨⟨r0, r1⟩, r2, r3⟩ := HC.out w3 HB3.out; clear hb3 q0 q1 q2 q3))
      go_ret2
      exact ⟨by rw [HX.out.1, HX.out.2]; rfl, HB1.out.trans (HB3.out.mono HB1.out.size)⟩
    | true =>
      have HX := hid (HV2.out e1 e2)
      have HCC := hid (HCM.out e1 e2)
      clear HCM HV1 HV2 HV0
      go_enter Try.func27, Try.ntmps27
      go_upto_region 1 with (fail)
      rw [← HW1.out, ← HB0.out, ← HBB.out]
      obtain ⟨⟨p0, p1⟩, p2, p3⟩ := HC.out w1 (Below.refl _ _)
      go_wp2_with (first | (go_at_call 55; with_reducible refine (HVA.out _).mono ?_; rintro e w2 ⟨rfl, hb2⟩; have HB2 := hid hb2; obtain ⟨⟨q0, q1⟩, q2, q3⟩ := HC.out w2 hb2; clear hb2 p0 p1 p2 p3) | (go_at_call 55; with_reducible refine (HVB.out _).mono ?_; rintro e w3 ⟨rfl, hb3⟩; have HB3 := hid (bnext0 HB2.out hb3); obtain ⟨⟨r0, r1⟩, r2, r3⟩ := HC.out w3 HB3.out; clear hb3 q0 q1 q2 q3) | (go_at_call 57; with_reducible refine (HCC.out _).mono ?_; rintro e w4 ⟨rfl, hb4⟩; have HB4 := hid (bnext0 HB3.out hb4); clear hb4 r0 r1 r2 r3))
      go_ret2
      exact ⟨by rw [HX.out.1, HX.out.2]; rfl, HB1.out.trans (HB4.out.mono HB1.out.size)⟩
end Go.Proofs.Ytfkcpcdndleboaa
