/- WALK: the law GridLess (printed by gen_l_less.py). -/
import Derived.Test.YtfkcpcdndleboaaNumV
import Derived.Test.YtfkcpcdndleboaaLayE
import Derived.Test.YtfkcpcdndleboaaRowP
namespace Go.Proofs.Ytfkcpcdndleboaa
open Go.RowKit
theorem run_neq_frac (a b c d : Int) (W : World) : (binOp .neq 52 (.agg #[.int .i64 a, .int .i64 b]) (.agg #[.int .i64 c, .int .i64 d])).run Try.prog W = .ok (.bool (decide (¬ (a = c ∧ b = d)))) W := by
  simp [go_sem]
  (repeat' split) <;> simp [*]
theorem fr_same {a b : Fr} (ha : a.ok) (hb : b.ok) (h1 : ¬ a.lt b) (h2 : ¬ b.lt a) : a = b := by
  have e : a.n * b.d = b.n * a.d := by unfold Fr.lt at h1 h2; omega
  obtain ⟨h3, h4⟩ := low_eq (by have := ha.low; omega) (by have := hb.low; omega) ha.gcd hb.gcd e
  obtain ⟨an, ad⟩ := a
  obtain ⟨bn, bd⟩ := b
  simp only [] at h3 h4
  rw [h3, h4]
set_option maxRecDepth 100000 in
set_option maxHeartbeats 2000000 in
theorem less_law (a b : Fr) (w : World) :
    Calls Try.prog 5 #[.agg #[.int .i64 a.n, .int .i64 a.d], .agg #[.int .i64 b.n, .int .i64 b.d]] w fun e w' => e = .returned (.bool true) ∧ Below w.heap.size w w' := by
  obtain ⟨w1, hw1⟩ : ∃ w1, w1 = (w.alloc (.cells #[.int .i64 a.n, .int .i64 a.d] 52)).alloc (.cells #[.int .i64 b.n, .int .i64 b.d] 52) := ⟨_, rfl⟩
  have hb1 : Below w.heap.size w w1 := by rw [hw1]; exact ((Below.refl _ _).alloc (Nat.le_refl _) _).alloc (by simp) _
  have h0 : FrB w1 w.heap.size a := by rw [hw1]; exact old_blk (nw_blk rfl)
  have h1 : FrB w1 (w.heap.size + 1) b := by rw [hw1]; exact nw_blk (by simp)
  have HC := hid fun (W : World) (h : Below w1.heap.size w1 W) => (show (W.cell? ⟨w.heap.size, 0, none⟩ = some (.int .i64 a.n) ∧ W.cell? ⟨w.heap.size, 1, none⟩ = some (.int .i64 a.d)) ∧ W.cell? ⟨w.heap.size + 1, 0, none⟩ = some (.int .i64 b.n) ∧ W.cell? ⟨w.heap.size + 1, 1, none⟩ = some (.int .i64 b.d) from ⟨(h0.below h).cells.1, (h1.below h).cells.1⟩)
  have HLA := hid fun W : World => lessL_any a b W
  have HLB := hid fun W : World => lessL_any b a W
  have HLR := hid fun W : World => lessM_any a b W
  have HWK := hid fun W : World => works_any W
  have HNE := hid fun W : World => run_neq_frac a.n a.d b.n b.d W
  have HW1 := hid hw1; have HB1 := hid hb1
  clear hw1 hb1 h0 h1
  obtain ⟨B0, hB0⟩ : ∃ B0, B0 = w.heap.size := ⟨_, rfl⟩
  obtain ⟨B1, hB1⟩ : ∃ B1, B1 = B0 + 1 := ⟨_, rfl⟩
  have HB0 := hid hB0; have HBB := hid hB1
  rw [← hB0] at HC
  rw [← hB1] at HC
  clear hB0 hB1
  have hE : lsE a b = 0 → okB a = true ∧ okB b = true := fun h => by unfold lsE at h; split at h; assumption; omega
  have hE1 : lsE a b = 0 ∨ lsE a b = 1 := by unfold lsE; split; exact .inl rfl; exact .inr rfl
  have hEb : lsE b a = lsE a b := by unfold lsE; simp only [and_comm]
  have hV : lsE a b = 0 → lsV a b = decide (a.lt b) ∧ lsV b a = decide (b.lt a) := fun h => by obtain ⟨h1, h2⟩ := hE h; unfold lsV; rw [h1, h2]; exact ⟨rfl, rfl⟩
  rw [hEb] at HLB
  rcases hE1 with h0 | h0
  · obtain ⟨h1, h2⟩ := hE h0
    obtain ⟨h3, h4⟩ := hV h0
    rw [h0, h4] at HLB
    rw [h0, h3] at HLA HLR
    by_cases k1 : a.lt b
    · have k2 : ¬ b.lt a := by unfold Fr.lt at k1 ⊢; omega
      rw [decide_eq_true k1] at HLA HLR
      rw [decide_eq_false k2] at HLB
      clear h0 h1 h2 h3 h4 k1 k2 HNE
      clear hE hEb hV
      go_enter Try.func5, Try.ntmps5
      go_upto_region 1 with (fail)
      rw [← HW1.out, ← HB0.out, ← HBB.out]
      obtain ⟨⟨p0, p1⟩, p2, p3⟩ := HC.out w1 (Below.refl _ _)
      go_wp2_with (first | (go_at_call 26; with_reducible refine (HLA.out _).mono ?_; rintro e w2 ⟨rfl, hb2⟩; have HB2 := hid hb2; obtain ⟨⟨q0, q1⟩, q2, q3⟩ := HC.out w2 hb2; clear hb2 p0 p1 p2 p3 HLA) | (go_at_call 27; with_reducible refine (HLR.out _).mono ?_; rintro e w3 ⟨rfl, hb3⟩; have HB3 := hid (bnext0 HB2.out hb3); obtain ⟨⟨r0, r1⟩, r2, r3⟩ := HC.out w3 HB3.out; clear hb3 q0 q1 q2 q3 HLR) | (go_at_call 26; with_reducible refine (HLB.out _).mono ?_; rintro e w4 ⟨rfl, hb4⟩; have HB4 := hid (bnext0 HB3.out hb4); obtain ⟨⟨s0, s1⟩, s2, s3⟩ := HC.out w4 HB4.out; clear hb4 r0 r1 r2 r3 HLB) | (go_at_call 11; refine (HWK.out _).mono ?_; rintro e w5 ⟨rfl, hb5⟩; have HB5 := hid (bnext0 HB4.out hb5); clear hb5))
      go_ret
      exact ⟨rfl, HB1.out.trans (HB5.out.mono HB1.out.size)⟩
    · by_cases k2 : b.lt a
      · rw [decide_eq_false k1] at HLA HLR
        rw [decide_eq_true k2] at HLB
        clear h0 h1 h2 h3 h4 k1 k2 HNE
        clear hE hEb hV
        go_enter Try.func5, Try.ntmps5
        go_upto_region 1 with (fail)
        rw [← HW1.out, ← HB0.out, ← HBB.out]
        obtain ⟨⟨p0, p1⟩, p2, p3⟩ := HC.out w1 (Below.refl _ _)
        go_wp2_with (first | (go_at_call 26; with_reducible refine (HLA.out _).mono ?_; rintro e w2 ⟨rfl, hb2⟩; have HB2 := hid hb2; obtain ⟨⟨q0, q1⟩, q2, q3⟩ := HC.out w2 hb2; clear hb2 p0 p1 p2 p3 HLA) | (go_at_call 27; with_reducible refine (HLR.out _).mono ?_; rintro e w3 ⟨rfl, hb3⟩; have HB3 := hid (bnext0 HB2.out hb3); obtain ⟨⟨r0, r1⟩, r2, r3⟩ := HC.out w3 HB3.out; clear hb3 q0 q1 q2 q3 HLR) | (go_at_call 26; with_reducible refine (HLB.out _).mono ?_; rintro e w4 ⟨rfl, hb4⟩; have HB4 := hid (bnext0 HB3.out hb4); obtain ⟨⟨s0, s1⟩, s2, s3⟩ := HC.out w4 HB4.out; clear hb4 r0 r1 r2 r3 HLB) | (go_at_call 11; refine (HWK.out _).mono ?_; rintro e w5 ⟨rfl, hb5⟩; have HB5 := hid (bnext0 HB4.out hb5); clear hb5))
        go_ret
        exact ⟨rfl, HB1.out.trans (HB5.out.mono HB1.out.size)⟩
      · rw [decide_eq_false k1] at HLA HLR
        rw [decide_eq_false k2] at HLB
        have hs := fr_same (okB_iff.1 h1) (okB_iff.1 h2) k1 k2
        have hne := HNE.out
        simp only [decide_eq_false (show ¬ ¬ (a.n = b.n ∧ a.d = b.d) from fun h => h ⟨by rw [hs], by rw [hs]⟩)] at hne
        clear h0 h1 h2 h3 h4 k1 k2 HNE hs
        clear hE hEb hV
        go_enter Try.func5, Try.ntmps5
        go_upto_region 1 with (fail)
        rw [← HW1.out, ← HB0.out, ← HBB.out]
        obtain ⟨⟨p0, p1⟩, p2, p3⟩ := HC.out w1 (Below.refl _ _)
        go_wp2_with (first | (go_at_call 26; with_reducible refine (HLA.out _).mono ?_; rintro e w2 ⟨rfl, hb2⟩; have HB2 := hid hb2; obtain ⟨⟨q0, q1⟩, q2, q3⟩ := HC.out w2 hb2; clear hb2 p0 p1 p2 p3 HLA) | (go_at_call 27; with_reducible refine (HLR.out _).mono ?_; rintro e w3 ⟨rfl, hb3⟩; have HB3 := hid (bnext0 HB2.out hb3); obtain ⟨⟨r0, r1⟩, r2, r3⟩ := HC.out w3 HB3.out; clear hb3 q0 q1 q2 q3 HLR) | (go_at_call 26; with_reducible refine (HLB.out _).mono ?_; rintro e w4 ⟨rfl, hb4⟩; have HB4 := hid (bnext0 HB3.out hb4); obtain ⟨⟨s0, s1⟩, s2, s3⟩ := HC.out w4 HB4.out; clear hb4 r0 r1 r2 r3 HLB) | (go_at_call 11; refine (HWK.out _).mono ?_; rintro e w5 ⟨rfl, hb5⟩; have HB5 := hid (bnext0 HB4.out hb5); clear hb5))
        go_ret
        exact ⟨rfl, HB1.out.trans (HB5.out.mono HB1.out.size)⟩
  · rw [h0] at HLA HLR HLB
    clear h0 HNE
    cases lsV a b with
    | true =>
      generalize lsV b a = z at *
      clear hE hEb hV
      go_enter Try.func5, Try.ntmps5
      go_upto_region 1 with (fail)
      rw [← HW1.out, ← HB0.out, ← HBB.out]
      obtain ⟨⟨p0, p1⟩, p2, p3⟩ := HC.out w1 (Below.refl _ _)
      go_wp2_with (first | (go_at_call 26; with_reducible refine (HLA.out _).mono ?_; rintro e w2 ⟨rfl, hb2⟩; have HB2 := hid hb2; obtain ⟨⟨q0, q1⟩, q2, q3⟩ := HC.out w2 hb2; clear hb2 p0 p1 p2 p3 HLA) | (go_at_call 27; with_reducible refine (HLR.out _).mono ?_; rintro e w3 ⟨rfl, hb3⟩; have HB3 := hid (bnext0 HB2.out hb3); obtain ⟨⟨r0, r1⟩, r2, r3⟩ := HC.out w3 HB3.out; clear hb3 q0 q1 q2 q3 HLR) | (go_at_call 26; with_reducible refine (HLB.out _).mono ?_; rintro e w4 ⟨rfl, hb4⟩; have HB4 := hid (bnext0 HB3.out hb4); obtain ⟨⟨s0, s1⟩, s2, s3⟩ := HC.out w4 HB4.out; clear hb4 r0 r1 r2 r3 HLB) | (go_at_call 11; refine (HWK.out _).mono ?_; rintro e w5 ⟨rfl, hb5⟩; have HB5 := hid (bnext0 HB4.out hb5); clear hb5))
      go_ret
      exact ⟨rfl, HB1.out.trans (HB5.out.mono HB1.out.size)⟩
    | false =>
      generalize lsV b a = z at *
      clear hE hEb hV
      go_enter Try.func5, Try.ntmps5
      go_upto_region 1 with (fail)
      rw [← HW1.out, ← HB0.out, ← HBB.out]
      obtain ⟨⟨p0, p1⟩, p2, p3⟩ := HC.out w1 (Below.refl _ _)
      go_wp2_with (first | (go_at_call 26; with_reducible refine (HLA.out _).mono ?_; rintro e w2 ⟨rfl, hb2⟩; have HB2 := hid hb2; obtain ⟨⟨q0, q1⟩, q2, q3⟩ := HC.out w2 hb2; clear hb2 p0 p1 p2 p3 HLA) | (go_at_call 27; with_reducible refine (HLR.out _).mono ?_; rintro e w3 ⟨rfl, hb3⟩; have HB3 := hid (bnext0 HB2.out hb3); obtain ⟨⟨r0, r1⟩, r2, r3⟩ := HC.out w3 HB3.out; clear hb3 q0 q1 q2 q3 HLR) | (go_at_call 26; with_reducible refine (HLB.out _).mono ?_; rintro e w4 ⟨rfl, hb4⟩; have HB4 := hid (bnext0 HB3.out hb4); obtain ⟨⟨s0, s1⟩, s2, s3⟩ := HC.out w4 HB4.out; clear hb4 r0 r1 r2 r3 HLB) | (go_at_call 11; refine (HWK.out _).mono ?_; rintro e w5 ⟨rfl, hb5⟩; have HB5 := hid (bnext0 HB4.out hb5); clear hb5))
      go_ret
      exact ⟨rfl, HB1.out.trans (HB5.out.mono HB1.out.size)⟩
end Go.Proofs.Ytfkcpcdndleboaa

/- PROVED: ostraconlaw04.GridLess returns true for every two fractions, and what it is given reads as before. Conditions: none. -/
namespace Go.Proofs.Ytfkcpcdndleboaa
open Go.ChangeShapes Go.WideShapes Go.ChangeAt Go.RowKit Go.Joins Go.Deep
theorem max63 {n : Nat} (h : n ≤ maxLen) : n ≤ 9223372036854775807 := h
theorem wf63 {n : Int} (h : (Lit.int .i64 n).wf = true) : -9223372036854775808 ≤ n ∧ n ≤ 9223372036854775807 := by
  simp only [Lit.wf, Bool.and_eq_true, decide_eq_true_eq] at h
  exact h
set_option maxRecDepth 100000 in
theorem less_lifted (os : Os) (started : os.Started) (H : Type) (enc : TypeId × Value → H) :
    ReturnsInHanded {} Try.checked os 5 .any (Rows.gridLessSpec.pre6 enc Try.prog Try.f5 Rows.gridLessRow.domain false) (Rows.gridLessSpec.post enc Try.prog Try.f5 false true false false) := by
  refine returnsInHanded_of_change (C := Try.checked) row_own started (by kernel_rfl) Try.func5
    (ChangeSpec.witness6 (enc := enc) (C := Try.checked) false ⟨#[], #[.agg #[.int .i64 0, .int .i64 0], .agg #[.int .i64 0, .int .i64 0]], []⟩ 8 (by kernel_rfl) (by kernel_rfl) (by kernel_rfl) (by kernel_rfl)) ?_
  intro W base args ds gs before hval0 hW hcnd _
  have hval : ∀ (j : Nat) t v, Try.f5.params[j]? = some t → args[j]? = some v → Value.okWide Try.prog W .any base t v := hval0
  have hW' := hW
  obtain ⟨p, q, hA0, hV, rfl, hfz, hnd⟩ := hW
  have hA : DataW.TrodAll enc Try.prog W 0 (fun _ => true) true Try.f5.params.toList args.toList ds p := hA0
  rw [Try.params5] at hA hval
  obtain ⟨v0, vs0, d0, ds0, p0, q0, hargs, rfl, rfl, h0, r0⟩ := trodAll_cons hA
  obtain ⟨v1, vs1, d1, ds1, p1, q1, rfl, rfl, rfl, h1, r1⟩ := trodAll_cons r0
  obtain ⟨rfl, rfl, rfl⟩ := trodAll_nil r1
  obtain rfl : args = #[v0, v1] := by cases args; simp_all
  obtain ⟨rfl, rfl⟩ := trodVars_none hV
  have k0 := h0
  have lt0 : ∀ x ∈ p0, x.block < W.heap.size := by obtain ⟨m, hm⟩ := k0; exact DataW.trod_lt m _ _ _ hm
  have k1 := h1
  have lt1 : ∀ x ∈ p1, x.block < W.heap.size := by obtain ⟨m, hm⟩ := k1; exact DataW.trod_lt m _ _ _ hm
  obtain ⟨f0, rfl⟩ := open_frac (hval 0 _ v0 rfl rfl) h0
  obtain ⟨f1, rfl⟩ := open_frac (hval 1 _ v1 rfl rfl) h1
  clear hA0 hval0
  refine (less_law f0 f1 W).mono fun e W' ⟨he, bel⟩ => ?_
  subst he
  exact ⟨_, rfl, _, _, _, [], _, [], hW', trodAll_mk1 (shut_bool Try.underlying4 _), (trodAll_cons_mk (Below.trod row_laid (by kernel_rfl) (of_decide_eq_true (by kernel_rfl)) k0 bel lt0) (trodAll_cons_mk (Below.trod row_laid (by kernel_rfl) (of_decide_eq_true (by kernel_rfl)) k1 bel lt1) trodAll_mk0)), rfl, bel.frame _, fun h => by cases h⟩
theorem less_holds : Rows.GridLessSaid :=
  OpenClaim.holds_of_wide 5 Try.f5 rfl rfl rfl rfl rfl rfl rfl ⟨rfl, rfl, rfl, rfl, rfl⟩ rfl rfl rfl rfl rfl (by kernel_rfl) Try.func5 (by kernel_rfl)
    (of_decide_eq_true (by kernel_rfl)) (by unfold Func.isWrapper; first | (rw [if_pos (by decide +kernel)]; kernel_rfl) | (rw [if_neg (by decide +kernel)]; exact ⟨rfl, rfl⟩))
    (fun os started H enc _ => less_lifted os started H enc)
#print axioms less_holds
end Go.Proofs.Ytfkcpcdndleboaa
