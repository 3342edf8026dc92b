/- WALK: ostraconlaw04.holds and contains, where they are true. -/
import Derived.Test.YtfkcpcdndleboaaCrossW
import Derived.Test.YtfkcpcdndleboaaLateA
import Derived.Test.YtfkcpcdndleboaaStdL
namespace Go.Proofs.Ytfkcpcdndleboaa
open Go.RowKit
def In62 (x : Int) : Prop := -4611686018427387903 ≤ x ∧ x ≤ 4611686018427387903
def In63 (x : Int) : Prop := -9223372036854775807 ≤ x ∧ x ≤ 9223372036854775807
/-- The products that holds asks for. -/
structure HoldOk (x w y v : Fr) : Prop where
  a1 : In62 (y.n * x.d)
  a2 : In62 (x.n * y.d)
  b1 : In62 (y.n * v.d)
  b2 : In62 (v.n * y.d)
  b3 : In62 (x.d * w.d)
  b4 : In62 (x.n * w.d)
  b5 : In62 (w.n * x.d)
  b6 : In62 (y.d * v.d)
  c1 : In63 ((y.n * v.d + v.n * y.d) * (x.d * w.d))
  c2 : In63 ((x.n * w.d + w.n * x.d) * (y.d * v.d))
  p1 : 0 < x.d * w.d
  p2 : 0 < y.d * v.d
set_option maxRecDepth 100000 in
set_option maxHeartbeats 4000000 in
theorem holds_any (x wd y v : Fr) (hk : HoldOk x wd y v) (h1 : ¬ y.lt x) (h2 : ¬ (x.add wd).lt (y.add v)) (w : World) :
    Calls Try.prog 58 #[.agg #[.int .i64 x.n, .int .i64 x.d], .agg #[.int .i64 wd.n, .int .i64 wd.d], .agg #[.int .i64 y.n, .int .i64 y.d], .agg #[.int .i64 v.n, .int .i64 v.d]] w fun e w' => e = .returned (.bool true) ∧ Below w.heap.size w w' := by
  have hle : (y.n * v.d + v.n * y.d) * (x.d * wd.d) ≤ (x.n * wd.d + wd.n * x.d) * (y.d * v.d) := by
    have e1 : x.add wd = frR (x.n * wd.d + wd.n * x.d) (x.d * wd.d) := rfl
    have e2 : y.add v = frR (y.n * v.d + v.n * y.d) (y.d * v.d) := rfl
    rw [e1, e2, lt_frR hk.p1 hk.p2] at h2
    omega
  have hlt : ¬ y.n * x.d < x.n * y.d := h1
  obtain ⟨w1, hw1⟩ : ∃ w1, w1 = (((w.alloc (.cells #[.int .i64 x.n, .int .i64 x.d] 52)).alloc (.cells #[.int .i64 wd.n, .int .i64 wd.d] 52)).alloc (.cells #[.int .i64 y.n, .int .i64 y.d] 52)).alloc (.cells #[.int .i64 v.n, .int .i64 v.d] 52) := ⟨_, rfl⟩
  have hb1 : Below w.heap.size w w1 := by rw [hw1]; exact ((((Below.refl _ _).alloc (Nat.le_refl _) _).alloc (by simp) _).alloc (by simp; omega) _).alloc (by simp; omega) _
  have f0 : FrB w1 w.heap.size x := by rw [hw1]; exact old_blk (old_blk (old_blk (nw_blk rfl)))
  have f1 : FrB w1 (w.heap.size + 1) wd := by rw [hw1]; exact old_blk (old_blk (nw_blk (by simp)))
  have f2 : FrB w1 (w.heap.size + 2) y := by rw [hw1]; exact old_blk (nw_blk (by simp))
  have f3 : FrB w1 (w.heap.size + 3) v := by rw [hw1]; exact nw_blk (by simp)
  obtain ⟨⟨c0, c1⟩, _, _⟩ := f0.cells
  obtain ⟨⟨c2, c3⟩, _, _⟩ := f1.cells
  obtain ⟨⟨c4, c5⟩, _, _⟩ := f2.cells
  obtain ⟨⟨c6, c7⟩, _, _⟩ := f3.cells
  have HW1 := hid hw1; have HB1 := hid hb1
  obtain ⟨k1, k2, k3, k4, k5, k6, k7, k8, k9, k10, _, _⟩ := hk
  unfold In62 at k1 k2 k3 k4 k5 k6 k7 k8
  unfold In63 at k9 k10
  obtain ⟨xn, xd⟩ := x
  obtain ⟨wn, wd⟩ := wd
  obtain ⟨yn, yd⟩ := y
  obtain ⟨vn, vd⟩ := v
  simp only [] at k1 k2 k3 k4 k5 k6 k7 k8 k9 k10 hlt hle c0 c1 c2 c3 c4 c5 c6 c7 HW1 ⊢
  have q1 : IntKind.i64.wrap (yn * xd) = yn * xd := wrapI (by omega) (by omega)
  have q2 : IntKind.i64.wrap (xn * yd) = xn * yd := wrapI (by omega) (by omega)
  have q3 : IntKind.i64.wrap (yn * vd) = yn * vd := wrapI (by omega) (by omega)
  have q4 : IntKind.i64.wrap (vn * yd) = vn * yd := wrapI (by omega) (by omega)
  have q5 : IntKind.i64.wrap (xd * wd) = xd * wd := wrapI (by omega) (by omega)
  have q6 : IntKind.i64.wrap (xn * wd) = xn * wd := wrapI (by omega) (by omega)
  have q7 : IntKind.i64.wrap (wn * xd) = wn * xd := wrapI (by omega) (by omega)
  have q8 : IntKind.i64.wrap (yd * vd) = yd * vd := wrapI (by omega) (by omega)
  have q9 : IntKind.i64.wrap (yn * vd + vn * yd) = yn * vd + vn * yd := wrapI (by omega) (by omega)
  have q10 : IntKind.i64.wrap (xn * wd + wn * xd) = xn * wd + wn * xd := wrapI (by omega) (by omega)
  have q11 : IntKind.i64.wrap ((yn * vd + vn * yd) * (xd * wd)) = (yn * vd + vn * yd) * (xd * wd) := wrapI (by omega) (by omega)
  have q12 : IntKind.i64.wrap ((xn * wd + wn * xd) * (yd * vd)) = (xn * wd + wn * xd) * (yd * vd) := wrapI (by omega) (by omega)
  have g1 : decide (yn * xd < xn * yd) = false := decide_eq_false hlt
  have g2 : decide ((yn * vd + vn * yd) * (xd * wd) ≤ (xn * wd + wn * xd) * (yd * vd)) = true := decide_eq_true hle
  clear hw1 hb1 f0 f1 f2 f3 k1 k2 k3 k4 k5 k6 k7 k8 k9 k10 hlt hle h1 h2
  go_enter Try.func58, Try.ntmps58
  go_upto_region 1 with (fail)
  simp only [Nat.add_assoc, Nat.reduceAdd]
  rw [← HW1.out]
  clear HW1
  go_wp2_with fail
  go_ret
  exact ⟨rfl, HB1.out⟩
set_option maxRecDepth 100000 in
set_option maxHeartbeats 4000000 in
theorem boxIn_any (a b : Bxv) (hx : HoldOk a.x a.w b.x b.w) (hy : HoldOk a.y a.h b.y b.h) (hh : holdsP a b) (w : World) :
    Calls Try.prog 25 #[.agg #[.int .i64 a.nd.kind, .int .i64 a.nd.sign, .int .i64 a.nd.turn, .bool a.nd.mir, .int .i64 a.nd.state, .int .i64 a.nd.mn, .int .i64 a.nd.mx, .int .i64 a.x.n, .int .i64 a.x.d, .int .i64 a.y.n, .int .i64 a.y.d, .int .i64 a.w.n, .int .i64 a.w.d, .int .i64 a.h.n, .int .i64 a.h.d], .agg #[.int .i64 b.nd.kind, .int .i64 b.nd.sign, .int .i64 b.nd.turn, .bool b.nd.mir, .int .i64 b.nd.state, .int .i64 b.nd.mn, .int .i64 b.nd.mx, .int .i64 b.x.n, .int .i64 b.x.d, .int .i64 b.y.n, .int .i64 b.y.d, .int .i64 b.w.n, .int .i64 b.w.d, .int .i64 b.h.n, .int .i64 b.h.d]] w fun e w' => e = .returned (.bool true) ∧ Below w.heap.size w w' := by
  obtain ⟨⟨h1, h2⟩, h3, h4⟩ := hh
  have HA := hid fun W : World => holds_any a.x a.w b.x b.w hx h1 h2 W
  have HB := hid fun W : World => holds_any a.y a.h b.y b.h hy h3 h4 W
  obtain ⟨w1, hw1⟩ : ∃ w1, w1 = (w.alloc (.cells #[.int .i64 a.nd.kind, .int .i64 a.nd.sign, .int .i64 a.nd.turn, .bool a.nd.mir, .int .i64 a.nd.state, .int .i64 a.nd.mn, .int .i64 a.nd.mx, .int .i64 a.x.n, .int .i64 a.x.d, .int .i64 a.y.n, .int .i64 a.y.d, .int .i64 a.w.n, .int .i64 a.w.d, .int .i64 a.h.n, .int .i64 a.h.d] 54)).alloc (.cells #[.int .i64 b.nd.kind, .int .i64 b.nd.sign, .int .i64 b.nd.turn, .bool b.nd.mir, .int .i64 b.nd.state, .int .i64 b.nd.mn, .int .i64 b.nd.mx, .int .i64 b.x.n, .int .i64 b.x.d, .int .i64 b.y.n, .int .i64 b.y.d, .int .i64 b.w.n, .int .i64 b.w.d, .int .i64 b.h.n, .int .i64 b.h.d] 54) := ⟨_, rfl⟩
  have hb1 : Below w.heap.size w w1 := by rw [hw1]; exact ((Below.refl _ _).alloc (Nat.le_refl _) _).alloc (by simp) _
  have ha : BxB w1 w.heap.size a := by rw [hw1]; exact old_blk (nw_blk rfl)
  have hb : BxB w1 (w.heap.size + 1) b := by rw [hw1]; exact nw_blk (by simp)
  have HW1 := hid hw1; have HB1 := hid hb1; have HXA := hid ha; have HXB := hid hb
  clear hw1 hb1 ha hb hx hy h1 h2 h3 h4
  go_enter Try.func25, Try.ntmps25
  go_upto_region 1 with (fail)
  rw [← HW1.out]
  clear HW1
  obtain ⟨B0, hB0⟩ : ∃ B0, B0 = w.heap.size := ⟨_, rfl⟩
  obtain ⟨B1, hB1⟩ : ∃ B1, B1 = B0 + 1 := ⟨_, rfl⟩
  rw [← hB0] at HXA HXB
  rw [← hB1] at HXB
  rw [← hB0]
  try rw [← hB1]
  clear hB0 hB1
  have ca := HXA.out.cells
  have cb := HXB.out.cells
  have a7 := ca.k7; have a8 := ca.k8; have a11 := ca.k11; have a12 := ca.k12
  have b7 := cb.k7; have b8 := cb.k8; have b11 := cb.k11; have b12 := cb.k12
  clear ca cb
  go_wp2_with (first | (go_at_call 58; with_reducible refine (HA.out _).mono ?_; rintro e w2 ⟨rfl, hb2⟩; have HB2 := hid hb2; have ca := (HXA.out.below hb2).cells; have cb := (HXB.out.below hb2).cells; have i9 := ca.k9; have i10 := ca.k10; have i13 := ca.k13; have i14 := ca.k14; have j9 := cb.k9; have j10 := cb.k10; have j13 := cb.k13; have j14 := cb.k14; clear ca cb hb2 a7 a8 a11 a12 b7 b8 b11 b12) | (go_at_call 58; with_reducible refine (HB.out _).mono ?_; rintro e w3 ⟨rfl, hb3⟩; have HB3 := hid (bnext0 HB2.out hb3); clear hb3))
  go_ret
  exact ⟨rfl, HB1.out.trans (HB3.out.mono HB1.out.size)⟩
end Go.Proofs.Ytfkcpcdndleboaa

/- WALK: ostraconlaw04.within, where it is true (printed by gen_withw.py). -/
namespace Go.Proofs.Ytfkcpcdndleboaa
open Go.RowKit
/-- The bounds of the last line's products. -/
theorem fit_bd {n d sn sd N D : Int} (n0 : 0 ≤ n) (n1 : n ≤ N) (d0 : 0 < d) (d1 : d ≤ D) (s0 : 0 < sn) (s1 : sn ≤ 2147483647) (t0 : 1 ≤ sd) (t1 : sd ≤ 32768) :
    (0 ≤ n / d / 72 ∧ n / d / 72 * 72 ≤ N) ∧ (0 ≤ n * sd ∧ n * sd ≤ N * 32768) ∧ (0 ≤ sn * d ∧ sn * d ≤ 2147483647 * D) ∧ (0 ≤ (72 * (n / d / 72) + 48) * d ∧ (72 * (n / d / 72) + 48) * d ≤ N + 48 * D) ∧ 0 ≤ (72 * (n / d / 72) + 48) * d * sd ∧ (72 * (n / d / 72) + 48) * d * sd ≤ (N + 48 * D) * 32768 := by
  have e1 : 0 ≤ n / d := Int.ediv_nonneg n0 (by omega)
  have e2 : n / d * d ≤ n := Int.ediv_mul_le n (by omega)
  have e3 : n / d ≤ n := Int.ediv_le_self d n0
  have e4 : 72 * (n / d / 72) ≤ n / d := by omega
  generalize n / d = q at *
  have f1 : 72 * (q / 72) * d ≤ q * d := Int.mul_le_mul_of_nonneg_right e4 (by omega)
  have f2 : (72 * (q / 72) + 48) * d = 72 * (q / 72) * d + 48 * d := Int.add_mul ..
  have f3 : 0 ≤ 72 * (q / 72) * d := Int.mul_nonneg (by omega) (by omega)
  have g1 : n * sd ≤ N * 32768 := Int.mul_le_mul n1 t1 (by omega) (by omega)
  have g2 : sn * d ≤ 2147483647 * D := Int.mul_le_mul s1 d1 (by omega) (by omega)
  have g3 : (72 * (q / 72) + 48) * d ≤ N + 48 * D := by omega
  have g4 : 0 ≤ (72 * (q / 72) + 48) * d := by omega
  have g5 : (72 * (q / 72) + 48) * d * sd ≤ (N + 48 * D) * 32768 := Int.mul_le_mul g3 t1 (by omega) (by omega)
  exact ⟨⟨by omega, by omega⟩, ⟨Int.mul_nonneg n0 (by omega), g1⟩, ⟨Int.mul_nonneg (by omega) (by omega), g2⟩, ⟨g4, g3⟩, Int.mul_nonneg g4 (by omega), g5⟩
theorem FrB.set2 {W : World} {b : Nat} {f : Fr} {n : Int} (h : FrB W b f) : FrB (W.setCell ⟨b, 1, none⟩ (.int .i64 n)) b ⟨f.n, n⟩ := by
  unfold FrB at h ⊢
  simp [World.setCell, h, Array.getElem?_modify] <;> rfl
theorem FrB.set1 {W : World} {b : Nat} {f : Fr} {n : Int} (h : FrB W b f) : FrB (W.setCell ⟨b, 0, none⟩ (.int .i64 n)) b ⟨n, f.d⟩ := by
  unfold FrB at h ⊢
  simp [World.setCell, h, Array.getElem?_modify] <;> rfl
set_option maxRecDepth 100000 in
set_option maxHeartbeats 4000000 in
theorem within_any (b : Bxv) (way len : Int) (hw : 1 ≤ way ∧ way ≤ 4) (hb : b.placed) (hin : b.within way) (w : World) :
    Calls Try.prog 23 #[.agg #[.int .i64 b.nd.kind, .int .i64 b.nd.sign, .int .i64 b.nd.turn, .bool b.nd.mir, .int .i64 b.nd.state, .int .i64 b.nd.mn, .int .i64 b.nd.mx, .int .i64 b.x.n, .int .i64 b.x.d, .int .i64 b.y.n, .int .i64 b.y.d, .int .i64 b.w.n, .int .i64 b.w.d, .int .i64 b.h.n, .int .i64 b.h.d], .agg #[.int .i64 way, .int .i64 len]] w fun e w' => e = .returned (.bool true) ∧ Below w.heap.size w w' := by
  obtain ⟨w1, hw1⟩ : ∃ w1, w1 = (w.alloc (.cells #[.int .i64 b.nd.kind, .int .i64 b.nd.sign, .int .i64 b.nd.turn, .bool b.nd.mir, .int .i64 b.nd.state, .int .i64 b.nd.mn, .int .i64 b.nd.mx, .int .i64 b.x.n, .int .i64 b.x.d, .int .i64 b.y.n, .int .i64 b.y.d, .int .i64 b.w.n, .int .i64 b.w.d, .int .i64 b.h.n, .int .i64 b.h.d] 54)).alloc (.cells #[.int .i64 way, .int .i64 len] 31) := ⟨_, rfl⟩
  have hb1 : Below w.heap.size w w1 := by rw [hw1]; exact ((Below.refl _ _).alloc (Nat.le_refl _) _).alloc (by simp) _
  have h0 : BxB w1 w.heap.size b := by rw [hw1]; exact old_blk (nw_blk rfl)
  have h1 : w1.heap[w.heap.size + 1]? = some (.cells #[.int .i64 way, .int .i64 len] 31) := by rw [hw1]; exact nw_blk (by simp)
  obtain ⟨B0, hB0⟩ : ∃ B0, B0 = w.heap.size := ⟨_, rfl⟩
  obtain ⟨B1, hB1⟩ : ∃ B1, B1 = B0 + 1 := ⟨_, rfl⟩
  rw [← hB0] at h0 h1
  rw [← hB1] at h1
  have hsz : w1.heap.size = B0 + 2 := by rw [hw1, hB0]; simp
  have HW1 := hid hw1; have HB1 := hid hb1; have HX := hid h0; have HG := hid h1; have HSZ := hid (show B0 < w1.heap.size ∧ B1 < w1.heap.size by omega); have HBB := hid (And.intro hB0 hB1)
  obtain ⟨xk, yk, wk, hk, w0, h0', xe, ye⟩ := hb
  obtain ⟨d0, n0, fit⟩ := hin
  have HXK := hid xk; have HYK := hid yk; have HWK := hid wk; have HHK := hid hk; have HW0 := hid w0; have HH0 := hid h0'
  have HD0 := hid d0; have HN0 := hid n0; have HFT := hid fit
  clear hw1 hb1 h0 h1 hB0 hB1 hsz xk yk wk hk w0 h0' xe ye d0 n0 fit
  have hww : way = 1 ∨ way = 2 ∨ way = 3 ∨ way = 4 := by omega
  clear hw
  rcases hww with hww | hww | hww | hww
  · subst way
    go_enter Try.func23, Try.ntmps23
    go_upto_region 1 with (fail)
    rw [← HW1.out, ← HBB.out.1]
    try rw [← HBB.out.2]
    refine region_two 77 [0, 1, 2, 3] 4 5 6 7 5 6 9 11 (f := b.y) (g := b.h) (by kernel_rfl) rfl rfl rfl rfl rfl ⟨rfl, rfl, rfl⟩ ⟨rfl, rfl, rfl⟩ ⟨rfl, rfl, rfl⟩ ⟨rfl, rfl, rfl⟩ (by decide) (by decide) (by decide) (by decide) (by decide) ?_
    apply Exists.intro
    refine ⟨?hq, ?hs, ?hv, ?ht⟩
    case hq =>
      intro wb hwb
      have HWB := hid hwb
      have cz := fun z : BW wb.heap.size wb => ((HX.out.below HWB.out).below z.ok).cells
      have i9 := fun z => (cz z).k9; have i10 := fun z => (cz z).k10; have i13 := fun z => (cz z).k13; have i14 := fun z => (cz z).k14
      clear cz hwb
      simp only [List.map_cons, List.map_nil, List.getD_cons_zero, List.getD_cons_succ]
      repeat (go_big_quiet_step (fail))
      refine wpQuiet_nil ?_
      exact rfl
    case hs => exact ⟨show (5 : Nat) < 77 from by decide, show (6 : Nat) < 77 from by decide⟩
    case hv => exact ⟨rfl, rfl⟩
    case ht =>
      intro p q w3 hp hq hpq hf hg hb3
      have HP := hid hp; have HQ := hid hq; have HPQ := hid hpq
      have HF := hid (And.intro hf hg); have HB3 := hid (show Below w1.heap.size w1 w3 from hb3)
      clear hf hg hb3 hp hq hpq
      simp only [Act.put, List.setIfInBounds_toArray, List.set_cons_succ, List.set_cons_zero]
      have hn : 0 ≤ b.y.n := HN0.out
      have hd : 0 < b.y.d := HD0.out
      have hft : b.y.n * b.h.d + b.h.n * b.y.d ≤ (72 * (b.y.n / b.y.d / 72) + 48) * b.y.d * b.h.d := HFT.out
      obtain ⟨⟨j1, j2⟩, ⟨j3, j4⟩, ⟨j5, j6⟩, ⟨j7, j8⟩, j9, j10⟩ := fit_bd (N := 2147483647) (D := 32768) hn HYK.out.hi hd HYK.out.high HH0.out HHK.out.hi HHK.out.low HHK.out.high
      have m1 := HYK.out.hi
      have m2 := HYK.out.high
      have m3 := HHK.out.hi
      have m4 := HHK.out.high
      have m5 := HHK.out.low
      have m6 := HH0.out
      obtain ⟨⟨c1, c2⟩, _, _⟩ := HF.out.1.cells
      obtain ⟨⟨c3, c4⟩, _, _⟩ := HF.out.2.cells
      have c5 := (res_two HB3.out HG.out).1.1
      obtain ⟨⟨yn, yd⟩, hy⟩ : ∃ f : Fr, f = b.y := ⟨_, rfl⟩
      obtain ⟨⟨sn, sd⟩, hh⟩ : ∃ f : Fr, f = b.h := ⟨_, rfl⟩
      rw [← hy] at hn hd hft j1 j2 j3 j4 j5 j6 j7 j8 j9 j10 m1 m2 c1 c2
      rw [← hh] at hft j3 j4 j5 j6 j9 j10 m3 m4 m5 m6 c3 c4
      simp only [] at hn hd hft j1 j2 j3 j4 j5 j6 j7 j8 j9 j10 m1 m2 m3 m4 m5 m6 c1 c2 c3 c4
      clear hy hh
      have q1 : IntKind.i64.wrap (yn * sd) = yn * sd := wrapI (by omega) (by omega)
      have q2 : IntKind.i64.wrap (sn * yd) = sn * yd := wrapI (by omega) (by omega)
      have q3 : IntKind.i64.wrap (yn * sd + sn * yd) = yn * sd + sn * yd := wrapI (by omega) (by omega)
      have q4 : IntKind.i64.wrap ((72 * (yn / yd / 72) + 48) * yd) = (72 * (yn / yd / 72) + 48) * yd := wrapI (by omega) (by omega)
      have q5 : IntKind.i64.wrap ((72 * (yn / yd / 72) + 48) * yd * sd) = (72 * (yn / yd / 72) + 48) * yd * sd := wrapI (by omega) (by omega)
      have q6 : 0 ≤ yn / yd := Int.ediv_nonneg hn (by omega)
      have q7 : yn / yd ≤ 2147483647 := Int.le_trans (Int.ediv_le_self _ hn) m1
      have r1 : decide (yn < 0) = false := decide_eq_false (by omega)
      have r2 : decide (yn * sd + sn * yd ≤ (72 * (yn / yd / 72) + 48) * yd * sd) = true := decide_eq_true hft
      go_wp2_with fail
      go_ret
      exact ⟨rfl, HB1.out.trans (HB3.out.mono HB1.out.size)⟩
  · subst way
    go_enter Try.func23, Try.ntmps23
    go_upto_region 1 with (fail)
    rw [← HW1.out, ← HBB.out.1]
    try rw [← HBB.out.2]
    refine region_two 77 [0, 1, 2, 3] 4 5 6 7 5 6 9 11 (f := b.y) (g := b.h) (by kernel_rfl) rfl rfl rfl rfl rfl ⟨rfl, rfl, rfl⟩ ⟨rfl, rfl, rfl⟩ ⟨rfl, rfl, rfl⟩ ⟨rfl, rfl, rfl⟩ (by decide) (by decide) (by decide) (by decide) (by decide) ?_
    apply Exists.intro
    refine ⟨?hq, ?hs, ?hv, ?ht⟩
    case hq =>
      intro wb hwb
      have HWB := hid hwb
      have cz := fun z : BW wb.heap.size wb => ((HX.out.below HWB.out).below z.ok).cells
      have i9 := fun z => (cz z).k9; have i10 := fun z => (cz z).k10; have i13 := fun z => (cz z).k13; have i14 := fun z => (cz z).k14
      clear cz hwb
      simp only [List.map_cons, List.map_nil, List.getD_cons_zero, List.getD_cons_succ]
      repeat (go_big_quiet_step (fail))
      refine wpQuiet_nil ?_
      exact rfl
    case hs => exact ⟨show (5 : Nat) < 77 from by decide, show (6 : Nat) < 77 from by decide⟩
    case hv => exact ⟨rfl, rfl⟩
    case ht =>
      intro p q w3 hp hq hpq hf hg hb3
      have HP := hid hp; have HQ := hid hq; have HPQ := hid hpq
      have HF := hid (And.intro hf hg); have HB3 := hid (show Below w1.heap.size w1 w3 from hb3)
      clear hf hg hb3 hp hq hpq
      simp only [Act.put, List.setIfInBounds_toArray, List.set_cons_succ, List.set_cons_zero]
      have hn : 0 ≤ b.y.n := HN0.out
      have hd : 0 < b.y.d := HD0.out
      have hft : b.y.n * b.h.d + b.h.n * b.y.d ≤ (72 * (b.y.n / b.y.d / 72) + 48) * b.y.d * b.h.d := HFT.out
      obtain ⟨⟨j1, j2⟩, ⟨j3, j4⟩, ⟨j5, j6⟩, ⟨j7, j8⟩, j9, j10⟩ := fit_bd (N := 2147483647) (D := 32768) hn HYK.out.hi hd HYK.out.high HH0.out HHK.out.hi HHK.out.low HHK.out.high
      have m1 := HYK.out.hi
      have m2 := HYK.out.high
      have m3 := HHK.out.hi
      have m4 := HHK.out.high
      have m5 := HHK.out.low
      have m6 := HH0.out
      obtain ⟨⟨c1, c2⟩, _, _⟩ := HF.out.1.cells
      obtain ⟨⟨c3, c4⟩, _, _⟩ := HF.out.2.cells
      have c5 := (res_two HB3.out HG.out).1.1
      obtain ⟨⟨yn, yd⟩, hy⟩ : ∃ f : Fr, f = b.y := ⟨_, rfl⟩
      obtain ⟨⟨sn, sd⟩, hh⟩ : ∃ f : Fr, f = b.h := ⟨_, rfl⟩
      rw [← hy] at hn hd hft j1 j2 j3 j4 j5 j6 j7 j8 j9 j10 m1 m2 c1 c2
      rw [← hh] at hft j3 j4 j5 j6 j9 j10 m3 m4 m5 m6 c3 c4
      simp only [] at hn hd hft j1 j2 j3 j4 j5 j6 j7 j8 j9 j10 m1 m2 m3 m4 m5 m6 c1 c2 c3 c4
      clear hy hh
      have q1 : IntKind.i64.wrap (yn * sd) = yn * sd := wrapI (by omega) (by omega)
      have q2 : IntKind.i64.wrap (sn * yd) = sn * yd := wrapI (by omega) (by omega)
      have q3 : IntKind.i64.wrap (yn * sd + sn * yd) = yn * sd + sn * yd := wrapI (by omega) (by omega)
      have q4 : IntKind.i64.wrap ((72 * (yn / yd / 72) + 48) * yd) = (72 * (yn / yd / 72) + 48) * yd := wrapI (by omega) (by omega)
      have q5 : IntKind.i64.wrap ((72 * (yn / yd / 72) + 48) * yd * sd) = (72 * (yn / yd / 72) + 48) * yd * sd := wrapI (by omega) (by omega)
      have q6 : 0 ≤ yn / yd := Int.ediv_nonneg hn (by omega)
      have q7 : yn / yd ≤ 2147483647 := Int.le_trans (Int.ediv_le_self _ hn) m1
      have r1 : decide (yn < 0) = false := decide_eq_false (by omega)
      have r2 : decide (yn * sd + sn * yd ≤ (72 * (yn / yd / 72) + 48) * yd * sd) = true := decide_eq_true hft
      go_wp2_with fail
      go_ret
      exact ⟨rfl, HB1.out.trans (HB3.out.mono HB1.out.size)⟩
  · subst way
    go_enter Try.func23, Try.ntmps23
    go_upto_region 1 with (fail)
    rw [← HW1.out, ← HBB.out.1]
    try rw [← HBB.out.2]
    refine region_two 77 [0, 1, 2, 3] 4 5 6 7 5 6 9 11 (f := b.y) (g := b.h) (by kernel_rfl) rfl rfl rfl rfl rfl ⟨rfl, rfl, rfl⟩ ⟨rfl, rfl, rfl⟩ ⟨rfl, rfl, rfl⟩ ⟨rfl, rfl, rfl⟩ (by decide) (by decide) (by decide) (by decide) (by decide) ?_
    apply Exists.intro
    refine ⟨?hq, ?hs, ?hv, ?ht⟩
    case hq =>
      intro wb hwb
      have HWB := hid hwb
      have cz := fun z : BW wb.heap.size wb => ((HX.out.below HWB.out).below z.ok).cells
      have i9 := fun z => (cz z).k9; have i10 := fun z => (cz z).k10; have i13 := fun z => (cz z).k13; have i14 := fun z => (cz z).k14
      clear cz hwb
      simp only [List.map_cons, List.map_nil, List.getD_cons_zero, List.getD_cons_succ]
      repeat (go_big_quiet_step (fail))
      refine wpQuiet_nil ?_
      exact rfl
    case hs => exact ⟨show (5 : Nat) < 77 from by decide, show (6 : Nat) < 77 from by decide⟩
    case hv => exact ⟨rfl, rfl⟩
    case ht =>
      intro p q w3 hp hq hpq hf hg hb3
      have HP := hid hp; have HQ := hid hq; have HPQ := hid hpq
      have HF := hid (And.intro hf hg); have HB3 := hid (show Below w1.heap.size w1 w3 from hb3)
      clear hf hg hb3 hp hq hpq
      simp only [Act.put, List.setIfInBounds_toArray, List.set_cons_succ, List.set_cons_zero]
      have n1 : p ≠ q := HPQ.out
      have p1 : w1.heap.size ≤ p := HP.out
      have p2 : w1.heap.size ≤ q := HQ.out
      have u1 : B0 ≠ p := by have := HSZ.out.1; omega
      have u2 : B0 ≠ q := by have := HSZ.out.1; omega
      have u3 : B1 ≠ p := by have := HSZ.out.2; omega
      have u4 : B1 ≠ q := by have := HSZ.out.2; omega
      have HU := hid (And.intro (Ne.symm u1) (And.intro (Ne.symm u2) (And.intro (Ne.symm u3) (Ne.symm u4))))
      have hbx := HX.out.below HB3.out
      have hpg := (HB3.out.block B1 HSZ.out.2).trans HG.out
      have HX3 := hid hbx; have HG3 := hid hpg
      have cx := hbx.cells
      obtain ⟨⟨c1, c2⟩, ⟨c3, c4⟩, _⟩ := HF.out.1.cells
      have c5 := (res_two (Below.refl _ _) hpg).1.1
      have c6 := cx.k7
      have c7 := cx.k8
      clear cx hbx hpg n1 p1 p2 u1 u2 u3 u4
      go_upto_region 4 with (fail)
      obtain ⟨w4, hw4⟩ : ∃ W, W = (w3.setCell ⟨p, 0, none⟩ (.int .i64 b.x.n)).setCell ⟨p, 1, none⟩ (.int .i64 b.x.d) := ⟨_, rfl⟩
      have HF4 := hid (show FrB w4 p b.x ∧ FrB w4 q b.h by rw [hw4]; exact ⟨HF.out.1.set (g := b.x), (HF.out.2.far HPQ.out).far HPQ.out⟩)
      have HX4 := hid (show BxB w4 B0 b by rw [hw4]; exact (HX3.out.far HU.out.1).far HU.out.1)
      have HG4 := hid (show w4.heap[B1]? = some (.cells #[.int .i64 3, .int .i64 len] 31) by rw [hw4, far_blk HU.out.2.2.1, far_blk HU.out.2.2.1]; exact HG3.out)
      have HB4 := hid (show Below w1.heap.size w1 w4 by rw [hw4]; exact (HB3.out.setCell HP.out _).setCell HP.out _)
      rw [← hw4]
      clear c1 c2 c3 c4 c5 c6 c7 hw4
      have cx := HX4.out.cells
      obtain ⟨⟨c1, c2⟩, ⟨c3, c4⟩, _⟩ := HF4.out.2.cells
      have c6 := cx.k11
      have c7 := cx.k12
      clear cx
      go_upto_region 5 with (fail)
      obtain ⟨w5, hw5⟩ : ∃ W, W = (w4.setCell ⟨q, 0, none⟩ (.int .i64 b.w.n)).setCell ⟨q, 1, none⟩ (.int .i64 b.w.d) := ⟨_, rfl⟩
      have HF5 := hid (show FrB w5 p b.x ∧ FrB w5 q b.w by rw [hw5]; exact ⟨(HF4.out.1.far (Ne.symm HPQ.out)).far (Ne.symm HPQ.out), HF4.out.2.set (g := b.w)⟩)
      have HX5 := hid (show BxB w5 B0 b by rw [hw5]; exact (HX4.out.far HU.out.2.1).far HU.out.2.1)
      have HG5 := hid (show w5.heap[B1]? = some (.cells #[.int .i64 3, .int .i64 len] 31) by rw [hw5, far_blk HU.out.2.2.2, far_blk HU.out.2.2.2]; exact HG4.out)
      have HB5 := hid (show Below w1.heap.size w1 w5 by rw [hw5]; exact (HB4.out.setCell HQ.out _).setCell HQ.out _)
      rw [← hw5]
      clear c1 c2 c3 c4 c6 c7 hw5
      have hn : 0 ≤ b.x.n := HN0.out
      have hd : 0 < b.x.d := HD0.out
      have hft : b.x.n * b.w.d + b.w.n * b.x.d ≤ (72 * (b.x.n / b.x.d / 72) + 48) * b.x.d * b.w.d := HFT.out
      have hni : b.x.n ≤ 2147483647 := HXK.out.hi
      have hdi : b.x.d ≤ 32768 := HXK.out.high
      have HF6 := HF5; have HB6 := HB5
      obtain ⟨⟨yn, yd⟩, hy⟩ : ∃ f : Fr, f = b.x := ⟨_, rfl⟩
      rw [← hy] at hn hd hft hni hdi HF6
      simp only [] at hn hd hft hni hdi
      clear hy
      obtain ⟨⟨j1, j2⟩, ⟨j3, j4⟩, ⟨j5, j6⟩, ⟨j7, j8⟩, j9, j10⟩ := fit_bd (N := 2147483647) (D := 32768) hn hni hd hdi HW0.out HWK.out.hi HWK.out.low HWK.out.high
      have m3 := HWK.out.hi
      have m4 := HWK.out.high
      have m5 := HWK.out.low
      have m6 := HW0.out
      obtain ⟨⟨c1, c2⟩, _, _⟩ := HF6.out.1.cells
      obtain ⟨⟨c3, c4⟩, _, _⟩ := HF6.out.2.cells
      have c5 := (res_two (Below.refl _ _) HG5.out).1.1
      obtain ⟨⟨sn, sd⟩, hh⟩ : ∃ f : Fr, f = b.w := ⟨_, rfl⟩
      rw [← hh] at hft j3 j4 j5 j6 j9 j10 m3 m4 m5 m6 c3 c4
      simp only [] at hn hd hft j1 j2 j3 j4 j5 j6 j7 j8 j9 j10 hni hdi m3 m4 m5 m6 c1 c2 c3 c4
      clear hh
      have q1 : IntKind.i64.wrap (yn * sd) = yn * sd := wrapI (by omega) (by omega)
      have q2 : IntKind.i64.wrap (sn * yd) = sn * yd := wrapI (by omega) (by omega)
      have q3 : IntKind.i64.wrap (yn * sd + sn * yd) = yn * sd + sn * yd := wrapI (by omega) (by omega)
      have q4 : IntKind.i64.wrap ((72 * (yn / yd / 72) + 48) * yd) = (72 * (yn / yd / 72) + 48) * yd := wrapI (by omega) (by omega)
      have q5 : IntKind.i64.wrap ((72 * (yn / yd / 72) + 48) * yd * sd) = (72 * (yn / yd / 72) + 48) * yd * sd := wrapI (by omega) (by omega)
      have q6 : 0 ≤ yn / yd := Int.ediv_nonneg hn (by omega)
      have q7 : yn / yd ≤ 2147483647 := Int.le_trans (Int.ediv_le_self _ hn) hni
      have r1 : decide (yn < 0) = false := decide_eq_false (by omega)
      have r2 : decide (yn * sd + sn * yd ≤ (72 * (yn / yd / 72) + 48) * yd * sd) = true := decide_eq_true hft
      go_wp2_with fail
      go_ret
      exact ⟨rfl, HB1.out.trans (HB6.out.mono HB1.out.size)⟩
  · subst way
    go_enter Try.func23, Try.ntmps23
    go_upto_region 1 with (fail)
    rw [← HW1.out, ← HBB.out.1]
    try rw [← HBB.out.2]
    refine region_two 77 [0, 1, 2, 3] 4 5 6 7 5 6 9 11 (f := b.y) (g := b.h) (by kernel_rfl) rfl rfl rfl rfl rfl ⟨rfl, rfl, rfl⟩ ⟨rfl, rfl, rfl⟩ ⟨rfl, rfl, rfl⟩ ⟨rfl, rfl, rfl⟩ (by decide) (by decide) (by decide) (by decide) (by decide) ?_
    apply Exists.intro
    refine ⟨?hq, ?hs, ?hv, ?ht⟩
    case hq =>
      intro wb hwb
      have HWB := hid hwb
      have cz := fun z : BW wb.heap.size wb => ((HX.out.below HWB.out).below z.ok).cells
      have i9 := fun z => (cz z).k9; have i10 := fun z => (cz z).k10; have i13 := fun z => (cz z).k13; have i14 := fun z => (cz z).k14
      clear cz hwb
      simp only [List.map_cons, List.map_nil, List.getD_cons_zero, List.getD_cons_succ]
      repeat (go_big_quiet_step (fail))
      refine wpQuiet_nil ?_
      exact rfl
    case hs => exact ⟨show (5 : Nat) < 77 from by decide, show (6 : Nat) < 77 from by decide⟩
    case hv => exact ⟨rfl, rfl⟩
    case ht =>
      intro p q w3 hp hq hpq hf hg hb3
      have HP := hid hp; have HQ := hid hq; have HPQ := hid hpq
      have HF := hid (And.intro hf hg); have HB3 := hid (show Below w1.heap.size w1 w3 from hb3)
      clear hf hg hb3 hp hq hpq
      simp only [Act.put, List.setIfInBounds_toArray, List.set_cons_succ, List.set_cons_zero]
      have n1 : p ≠ q := HPQ.out
      have p1 : w1.heap.size ≤ p := HP.out
      have p2 : w1.heap.size ≤ q := HQ.out
      have u1 : B0 ≠ p := by have := HSZ.out.1; omega
      have u2 : B0 ≠ q := by have := HSZ.out.1; omega
      have u3 : B1 ≠ p := by have := HSZ.out.2; omega
      have u4 : B1 ≠ q := by have := HSZ.out.2; omega
      have HU := hid (And.intro (Ne.symm u1) (And.intro (Ne.symm u2) (And.intro (Ne.symm u3) (Ne.symm u4))))
      have hbx := HX.out.below HB3.out
      have hpg := (HB3.out.block B1 HSZ.out.2).trans HG.out
      have HX3 := hid hbx; have HG3 := hid hpg
      have cx := hbx.cells
      obtain ⟨⟨c1, c2⟩, ⟨c3, c4⟩, _⟩ := HF.out.1.cells
      have c5 := (res_two (Below.refl _ _) hpg).1.1
      have c6 := cx.k7
      have c7 := cx.k8
      clear cx hbx hpg n1 p1 p2 u1 u2 u3 u4
      go_upto_region 4 with (fail)
      obtain ⟨w4, hw4⟩ : ∃ W, W = (w3.setCell ⟨p, 0, none⟩ (.int .i64 b.x.n)).setCell ⟨p, 1, none⟩ (.int .i64 b.x.d) := ⟨_, rfl⟩
      have HF4 := hid (show FrB w4 p b.x ∧ FrB w4 q b.h by rw [hw4]; exact ⟨HF.out.1.set (g := b.x), (HF.out.2.far HPQ.out).far HPQ.out⟩)
      have HX4 := hid (show BxB w4 B0 b by rw [hw4]; exact (HX3.out.far HU.out.1).far HU.out.1)
      have HG4 := hid (show w4.heap[B1]? = some (.cells #[.int .i64 4, .int .i64 len] 31) by rw [hw4, far_blk HU.out.2.2.1, far_blk HU.out.2.2.1]; exact HG3.out)
      have HB4 := hid (show Below w1.heap.size w1 w4 by rw [hw4]; exact (HB3.out.setCell HP.out _).setCell HP.out _)
      rw [← hw4]
      clear c1 c2 c3 c4 c5 c6 c7 hw4
      have cx := HX4.out.cells
      obtain ⟨⟨c1, c2⟩, ⟨c3, c4⟩, _⟩ := HF4.out.2.cells
      have c6 := cx.k11
      have c7 := cx.k12
      clear cx
      go_upto_region 5 with (fail)
      obtain ⟨w5, hw5⟩ : ∃ W, W = (w4.setCell ⟨q, 0, none⟩ (.int .i64 b.w.n)).setCell ⟨q, 1, none⟩ (.int .i64 b.w.d) := ⟨_, rfl⟩
      have HF5 := hid (show FrB w5 p b.x ∧ FrB w5 q b.w by rw [hw5]; exact ⟨(HF4.out.1.far (Ne.symm HPQ.out)).far (Ne.symm HPQ.out), HF4.out.2.set (g := b.w)⟩)
      have HX5 := hid (show BxB w5 B0 b by rw [hw5]; exact (HX4.out.far HU.out.2.1).far HU.out.2.1)
      have HG5 := hid (show w5.heap[B1]? = some (.cells #[.int .i64 4, .int .i64 len] 31) by rw [hw5, far_blk HU.out.2.2.2, far_blk HU.out.2.2.2]; exact HG4.out)
      have HB5 := hid (show Below w1.heap.size w1 w5 by rw [hw5]; exact (HB4.out.setCell HQ.out _).setCell HQ.out _)
      rw [← hw5]
      clear c1 c2 c3 c4 c6 c7 hw5
      have hdd : 0 < b.x.d * b.w.d := HD0.out
      have hx := HXK.out
      have hwk := HWK.out
      obtain ⟨v1, v2, v3, v4⟩ : (-70368744144896 ≤ -b.x.n * b.w.d ∧ -b.x.n * b.w.d ≤ 70368744144896) ∧ (-70368744144896 ≤ b.w.n * b.x.d ∧ b.w.n * b.x.d ≤ 70368744144896) ∧ b.x.d * b.w.d ≤ 1073741824 ∧ 0 ≤ b.w.n * b.x.d := by
        have z1 := hx.lo; have z2 := hx.hi; have z3 := hx.low; have z4 := hx.high
        have y1 := hwk.lo; have y2 := hwk.hi; have y3 := hwk.low; have y4 := hwk.high
        have o1 : b.x.n * b.w.d ≤ 2147483647 * 32768 := by
          rcases Int.le_total 0 b.x.n with h | h
          · exact Int.mul_le_mul z2 y4 (by omega) (by omega)
          · have := Int.mul_nonpos_of_nonpos_of_nonneg h (show 0 ≤ b.w.d by omega); omega
        have o2 : -b.x.n * b.w.d ≤ 2147483647 * 32768 := by
          rcases Int.le_total b.x.n 0 with h | h
          · exact Int.mul_le_mul (by omega) y4 (by omega) (by omega)
          · have := Int.mul_nonneg h (show 0 ≤ b.w.d by omega); rw [Int.neg_mul]; omega
        have o3 : b.w.n * b.x.d ≤ 2147483647 * 32768 := Int.mul_le_mul y2 z4 (by omega) (by omega)
        have o4 : 0 ≤ b.w.n * b.x.d := Int.mul_nonneg (by have := HW0.out; omega) (by omega)
        have o5 : b.x.d * b.w.d ≤ 32768 * 32768 := Int.mul_le_mul z4 y4 (by omega) (by omega)
        have o6 : -b.x.n * b.w.d = -(b.x.n * b.w.d) := Int.neg_mul ..
        omega
      have cx := HX5.out.cells
      obtain ⟨⟨c1, c2⟩, ⟨c3, c4⟩, _⟩ := HF5.out.1.cells
      have c5 := (res_two (Below.refl _ _) HG5.out).1.1
      have c6 := cx.k7
      have c7 := cx.k8
      have c8 := cx.k11
      have c9 := cx.k12
      clear cx hx hwk
      have g0 : -2147483647 ≤ b.x.n := HXK.out.lo
      have g1 : b.x.n ≤ 2147483647 := HXK.out.hi
      have q1 : IntKind.i64.wrap (-b.x.n * b.w.d) = -b.x.n * b.w.d := wrapI (by omega) (by omega)
      have q2 : IntKind.i64.wrap (b.w.n * b.x.d) = b.w.n * b.x.d := wrapI (by omega) (by omega)
      have q3 : IntKind.i64.wrap (b.x.d * b.w.d) = b.x.d * b.w.d := wrapI (by omega) (by omega)
      have q4 : IntKind.i64.wrap (-b.x.n * b.w.d - b.w.n * b.x.d) = -b.x.n * b.w.d - b.w.n * b.x.d := wrapI (by omega) (by omega)
      go_upto_region 7 with (fail)
      clear c1 c2 c3 c4 c5 c6 c7 c8 c9
      obtain ⟨w6, hw6⟩ : ∃ W, W = w5.setCell ⟨p, 0, none⟩ (.int .i64 (-b.x.n * b.w.d - b.w.n * b.x.d)) := ⟨_, rfl⟩
      rw [← hw6]
      have HF6 := hid (show FrB w6 p ⟨-b.x.n * b.w.d - b.w.n * b.x.d, b.x.d⟩ ∧ FrB w6 q b.w by rw [hw6]; exact ⟨HF5.out.1.set1, HF5.out.2.far HPQ.out⟩)
      have HX6 := hid (show BxB w6 B0 b by rw [hw6]; exact HX5.out.far HU.out.1)
      have HG6 := hid (show w6.heap[B1]? = some (.cells #[.int .i64 4, .int .i64 len] 31) by rw [hw6, far_blk HU.out.2.2.1]; exact HG5.out)
      have HB6 := hid (show Below w1.heap.size w1 w6 by rw [hw6]; exact HB5.out.setCell HP.out _)
      clear hw6
      have cx := HX6.out.cells
      obtain ⟨⟨c1, c2⟩, ⟨c3, c4⟩, _⟩ := HF6.out.1.cells
      have c7 := cx.k8
      have c9 := cx.k12
      clear cx
      go_upto_region 8 with (fail)
      obtain ⟨w7, hw7⟩ : ∃ W, W = w6.setCell ⟨p, 1, none⟩ (.int .i64 (b.x.d * b.w.d)) := ⟨_, rfl⟩
      rw [← hw7]
      have HF7 := hid (show FrB w7 p ⟨-b.x.n * b.w.d - b.w.n * b.x.d, b.x.d * b.w.d⟩ ∧ FrB w7 q b.w by rw [hw7]; exact ⟨HF6.out.1.set2, HF6.out.2.far HPQ.out⟩)
      have HB7 := hid (show Below w1.heap.size w1 w7 by rw [hw7]; exact HB6.out.setCell HP.out _)
      clear hw7 c1 c2 c3 c4 c7 c9 HF6 HB6
      have hn : 0 ≤ -b.x.n * b.w.d - b.w.n * b.x.d := HN0.out
      have hd : 0 < b.x.d * b.w.d := HD0.out
      have hft : (-b.x.n * b.w.d - b.w.n * b.x.d) * b.w.d + b.w.n * (b.x.d * b.w.d) ≤ (72 * ((-b.x.n * b.w.d - b.w.n * b.x.d) / (b.x.d * b.w.d) / 72) + 48) * (b.x.d * b.w.d) * b.w.d := HFT.out
      have hni : -b.x.n * b.w.d - b.w.n * b.x.d ≤ 70368744144896 := by omega
      have hdi : b.x.d * b.w.d ≤ 1073741824 := v3
      have HF6 := HF7; have HB6 := HB7
      clear q1 q2 q3 q4 v1 v2 v3 v4 g0 g1 hdd
      obtain ⟨yn, hyn⟩ : ∃ y, y = -b.x.n * b.w.d - b.w.n * b.x.d := ⟨_, rfl⟩
      obtain ⟨yd, hyd⟩ : ∃ y, y = b.x.d * b.w.d := ⟨_, rfl⟩
      rw [← hyn] at hn hft hni HF6
      rw [← hyd] at hd hft hdi HF6
      clear hyn hyd
      obtain ⟨⟨j1, j2⟩, ⟨j3, j4⟩, ⟨j5, j6⟩, ⟨j7, j8⟩, j9, j10⟩ := fit_bd (N := 70368744144896) (D := 1073741824) hn hni hd hdi HW0.out HWK.out.hi HWK.out.low HWK.out.high
      have m3 := HWK.out.hi
      have m4 := HWK.out.high
      have m5 := HWK.out.low
      have m6 := HW0.out
      obtain ⟨⟨c1, c2⟩, _, _⟩ := HF6.out.1.cells
      obtain ⟨⟨c3, c4⟩, _, _⟩ := HF6.out.2.cells
      obtain ⟨⟨sn, sd⟩, hh⟩ : ∃ f : Fr, f = b.w := ⟨_, rfl⟩
      rw [← hh] at hft j3 j4 j5 j6 j9 j10 m3 m4 m5 m6 c3 c4
      simp only [] at hn hd hft j1 j2 j3 j4 j5 j6 j7 j8 j9 j10 hni hdi m3 m4 m5 m6 c1 c2 c3 c4
      clear hh
      have q1 : IntKind.i64.wrap (yn * sd) = yn * sd := wrapI (by omega) (by omega)
      have q2 : IntKind.i64.wrap (sn * yd) = sn * yd := wrapI (by omega) (by omega)
      have q3 : IntKind.i64.wrap (yn * sd + sn * yd) = yn * sd + sn * yd := wrapI (by omega) (by omega)
      have q4 : IntKind.i64.wrap ((72 * (yn / yd / 72) + 48) * yd) = (72 * (yn / yd / 72) + 48) * yd := wrapI (by omega) (by omega)
      have q5 : IntKind.i64.wrap ((72 * (yn / yd / 72) + 48) * yd * sd) = (72 * (yn / yd / 72) + 48) * yd * sd := wrapI (by omega) (by omega)
      have q6 : 0 ≤ yn / yd := Int.ediv_nonneg hn (by omega)
      have q7 : yn / yd ≤ 70368744144896 := Int.le_trans (Int.ediv_le_self _ hn) hni
      have r1 : decide (yn < 0) = false := decide_eq_false (by omega)
      have r2 : decide (yn * sd + sn * yd ≤ (72 * (yn / yd / 72) + 48) * yd * sd) = true := decide_eq_true hft
      go_wp2_with fail
      go_ret
      exact ⟨rfl, HB1.out.trans (HB6.out.mono HB1.out.size)⟩
end Go.Proofs.Ytfkcpcdndleboaa
