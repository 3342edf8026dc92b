/- WALK: placed boxes, on both sides (printed by gen_placedw.py). -/
import Derived.Test.YtfkcpcdndleboaaNumV
import Derived.Test.YtfkcpcdndleboaaLayE
namespace Go.Proofs.Ytfkcpcdndleboaa
open Go.RowKit
/-- Is a box placed? -/
noncomputable def plB (b : Bxv) : Bool := @decide b.placed (Classical.propDecidable _)
theorem plB_t {b : Bxv} (h : b.placed) : plB b = true := by unfold plB; exact @decide_eq_true _ (Classical.propDecidable _) h
theorem plB_f {b : Bxv} (h : ¬ b.placed) : plB b = false := by unfold plB; exact @decide_eq_false _ (Classical.propDecidable _) h
theorem plB_iff {b : Bxv} : plB b = true ↔ b.placed := ⟨fun h => Classical.byContradiction fun h1 => (by rw [plB_f h1] at h; cases h), plB_t⟩
theorem pos_lt {f : Fr} : (whF 0).lt f ↔ 0 < f.n := by
  unfold Fr.lt whF
  simp only []
  omega
set_option maxRecDepth 100000 in
set_option maxHeartbeats 4000000 in
theorem placed_any (b : Bxv) (w : World) :
    Calls Try.prog 102 #[.agg #[.int .i64 b.nd.kind, .int .i64 b.nd.sign, .int .i64 b.nd.turn, .bool b.nd.mir, .int .i64 b.nd.state, .int .i64 b.nd.mn, .int .i64 b.nd.mx, .int .i64 b.x.n, .int .i64 b.x.d, .int .i64 b.y.n, .int .i64 b.y.d, .int .i64 b.w.n, .int .i64 b.w.d, .int .i64 b.h.n, .int .i64 b.h.d]] w fun e w' => e = .returned (.bool (plB b)) ∧ Below w.heap.size w w' := by
  obtain ⟨w1, hw1⟩ : ∃ w1, w1 = w.alloc (.cells #[.int .i64 b.nd.kind, .int .i64 b.nd.sign, .int .i64 b.nd.turn, .bool b.nd.mir, .int .i64 b.nd.state, .int .i64 b.nd.mn, .int .i64 b.nd.mx, .int .i64 b.x.n, .int .i64 b.x.d, .int .i64 b.y.n, .int .i64 b.y.d, .int .i64 b.w.n, .int .i64 b.w.d, .int .i64 b.h.n, .int .i64 b.h.d] 54) := ⟨_, rfl⟩
  have hb1 : Below w.heap.size w w1 := by rw [hw1]; exact (Below.refl _ _).alloc (Nat.le_refl _) _
  have h0 : BxB w1 w.heap.size b := by rw [hw1]; exact nw_blk rfl
  have HV := hid fun (f : Fr) (W : World) => valid_any f W
  have HVX := hid (HV.out b.x); have HVY := hid (HV.out b.y); have HVW := hid (HV.out b.w); have HVH := hid (HV.out b.h); have HVE := hid (HV.out (b.x.add b.w)); have HVF := hid (HV.out (b.y.add b.h))
  have HAE := hid fun (h1 : okB b.x = true) (h2 : okB b.w = true) (W : World) => addV_any b.x b.w ((okB_iff.1 h1).num.prd (okB_iff.1 h2).num (by decide) (by decide) (by decide)) W
  have HAF := hid fun (h1 : okB b.y = true) (h2 : okB b.h = true) (W : World) => addV_any b.y b.h ((okB_iff.1 h1).num.prd (okB_iff.1 h2).num (by decide) (by decide) (by decide)) W
  have HCW := hid fun (h2 : okB b.w = true) (W : World) => compareV_any b.w (whF 0) ((okB_iff.1 h2).num.prd (show FrN 1 0 (whF 0) from ⟨by show (0 : Int) < 1; omega, by show (1 : Int) ≤ 1; omega, by show (0 : Int).natAbs ≤ 0; omega⟩) (by decide) (by decide) (by decide)) W
  have HCH := hid fun (h2 : okB b.h = true) (W : World) => compareV_any b.h (whF 0) ((okB_iff.1 h2).num.prd (show FrN 1 0 (whF 0) from ⟨by show (0 : Int) < 1; omega, by show (1 : Int) ≤ 1; omega, by show (0 : Int).natAbs ≤ 0; omega⟩) (by decide) (by decide) (by decide)) W
  have HWH := hid fun W : World => wholeP_any 0 W
  have hcw : cmpF b.w (whF 0) ≤ 0 ↔ ¬ 0 < b.w.n := cmp_le.trans (not_congr pos_lt)
  have hch : cmpF b.h (whF 0) ≤ 0 ↔ ¬ 0 < b.h.n := cmp_le.trans (not_congr pos_lt)
  generalize cmpF b.w (whF 0) = cw at *
  generalize cmpF b.h (whF 0) = ch at *
  generalize hf0 : whF 0 = f0 at *
  clear hf0
  have HPT := hid fun h : b.placed => plB_t h
  have HPF := hid fun h : ¬ b.placed => plB_f h
  have hxe : b.xe = b.x.add b.w := rfl
  have hye : b.ye = b.y.add b.h := rfl
  generalize hfe : b.x.add b.w = fe at *
  generalize hff : b.y.add b.h = ff at *
  clear hfe hff
  have HW1 := hid hw1; have HB1 := hid hb1; have HV0 := hid h0
  clear hw1 hb1 h0 HV
  obtain ⟨B0, hB0⟩ : ∃ B0, B0 = w.heap.size := ⟨_, rfl⟩
  have HB0 := hid hB0
  rw [← hB0] at HV0
  clear hB0
  cases e0 : okB b.x with
  | false =>
    have HX := hid (HPF.out fun h => (by rw [okB_t h.x] at e0; cases e0))
    clear hxe hye HPT HPF hcw hch
    go_enter Try.func102, Try.ntmps102
    go_upto_region 1 with (fail)
    rw [← HW1.out, ← HB0.out]
    go_upto_region 2 with (first | (go_at_call 80; refine (HWH.out _).mono ?_; rintro e w2 ⟨rfl, hb2⟩; have HB2 := hid hb2; clear hb2))
    obtain ⟨w3, hw3⟩ : ∃ w3, w3 = w2.alloc (.cells #[.int .i64 f0.n, .int .i64 f0.d] 52) := ⟨_, rfl⟩
    have HF3 := hid (show FrB w3 w2.heap.size f0 by rw [hw3]; exact FrB.new rfl)
    have hb3 : Below w1.heap.size w1 w3 := by rw [hw3]; exact HB2.out.alloc HB2.out.size _
    have HV3 := hid (HV0.out.below hb3); have HB3 := hid hb3
    rw [← hw3]
    obtain ⟨b3, hb3'⟩ : ∃ b, b = w2.heap.size := ⟨_, rfl⟩
    rw [← hb3'] at HF3
    try rw [← hb3']
    have HBN := hid (Below.refl w3.heap.size w3)
    clear hw3 hb3 hb3'
    obtain ⟨⟨y0, y1⟩, _, _⟩ := HF3.out.cells
    have hc := HV3.out.cells
    have i7 := hc.k7; have i8 := hc.k8; have i9 := hc.k9; have i10 := hc.k10; have i11 := hc.k11; have i12 := hc.k12; have i13 := hc.k13; have i14 := hc.k14
    clear hc
    go_wp2_with (first | (go_at_call 59; with_reducible refine (HVX.out _).mono ?_; rintro e wz ⟨rfl, hbz⟩; have HBN := hid (bnext0 HBN.out hbz); clear hbz i7 i8 i9 i10 i11 i12 i13 i14 y0 y1; have hc := (HV3.out.below HBN.out).cells; have i7 := hc.k7; have i8 := hc.k8; have i9 := hc.k9; have i10 := hc.k10; have i11 := hc.k11; have i12 := hc.k12; have i13 := hc.k13; have i14 := hc.k14; clear hc; obtain ⟨⟨y0, y1⟩, _, _⟩ := (HF3.out.below HBN.out).cells))
    go_ret
    exact ⟨by rw [HX.out]; rfl, (HB1.out.trans (HB3.out.mono HB1.out.size)).trans (HBN.out.mono (by have := HB1.out.size; have := HB3.out.size; omega))⟩
  | true =>
    cases e1 : okB b.y with
    | false =>
      have HX := hid (HPF.out fun h => (by rw [okB_t h.y] at e1; cases e1))
      clear hxe hye HPT HPF hcw hch
      go_enter Try.func102, Try.ntmps102
      go_upto_region 1 with (fail)
      rw [← HW1.out, ← HB0.out]
      go_upto_region 2 with (first | (go_at_call 80; refine (HWH.out _).mono ?_; rintro e w2 ⟨rfl, hb2⟩; have HB2 := hid hb2; clear hb2))
      obtain ⟨w3, hw3⟩ : ∃ w3, w3 = w2.alloc (.cells #[.int .i64 f0.n, .int .i64 f0.d] 52) := ⟨_, rfl⟩
      have HF3 := hid (show FrB w3 w2.heap.size f0 by rw [hw3]; exact FrB.new rfl)
      have hb3 : Below w1.heap.size w1 w3 := by rw [hw3]; exact HB2.out.alloc HB2.out.size _
      have HV3 := hid (HV0.out.below hb3); have HB3 := hid hb3
      rw [← hw3]
      obtain ⟨b3, hb3'⟩ : ∃ b, b = w2.heap.size := ⟨_, rfl⟩
      rw [← hb3'] at HF3
      try rw [← hb3']
      have HBN := hid (Below.refl w3.heap.size w3)
      clear hw3 hb3 hb3'
      obtain ⟨⟨y0, y1⟩, _, _⟩ := HF3.out.cells
      have hc := HV3.out.cells
      have i7 := hc.k7; have i8 := hc.k8; have i9 := hc.k9; have i10 := hc.k10; have i11 := hc.k11; have i12 := hc.k12; have i13 := hc.k13; have i14 := hc.k14
      clear hc
      go_wp2_with (first | (go_at_call 59; with_reducible refine (HVX.out _).mono ?_; rintro e wz ⟨rfl, hbz⟩; have HBN := hid (bnext0 HBN.out hbz); clear hbz i7 i8 i9 i10 i11 i12 i13 i14 y0 y1; have hc := (HV3.out.below HBN.out).cells; have i7 := hc.k7; have i8 := hc.k8; have i9 := hc.k9; have i10 := hc.k10; have i11 := hc.k11; have i12 := hc.k12; have i13 := hc.k13; have i14 := hc.k14; clear hc; obtain ⟨⟨y0, y1⟩, _, _⟩ := (HF3.out.below HBN.out).cells) | (go_at_call 59; with_reducible refine (HVY.out _).mono ?_; rintro e wz ⟨rfl, hbz⟩; have HBN := hid (bnext0 HBN.out hbz); clear hbz i7 i8 i9 i10 i11 i12 i13 i14 y0 y1; have hc := (HV3.out.below HBN.out).cells; have i7 := hc.k7; have i8 := hc.k8; have i9 := hc.k9; have i10 := hc.k10; have i11 := hc.k11; have i12 := hc.k12; have i13 := hc.k13; have i14 := hc.k14; clear hc; obtain ⟨⟨y0, y1⟩, _, _⟩ := (HF3.out.below HBN.out).cells))
      go_ret
      exact ⟨by rw [HX.out]; rfl, (HB1.out.trans (HB3.out.mono HB1.out.size)).trans (HBN.out.mono (by have := HB1.out.size; have := HB3.out.size; omega))⟩
    | true =>
      cases e2 : okB b.w with
      | false =>
        have HX := hid (HPF.out fun h => (by rw [okB_t h.w] at e2; cases e2))
        clear hxe hye HPT HPF hcw hch
        go_enter Try.func102, Try.ntmps102
        go_upto_region 1 with (fail)
        rw [← HW1.out, ← HB0.out]
        go_upto_region 2 with (first | (go_at_call 80; refine (HWH.out _).mono ?_; rintro e w2 ⟨rfl, hb2⟩; have HB2 := hid hb2; clear hb2))
        obtain ⟨w3, hw3⟩ : ∃ w3, w3 = w2.alloc (.cells #[.int .i64 f0.n, .int .i64 f0.d] 52) := ⟨_, rfl⟩
        have HF3 := hid (show FrB w3 w2.heap.size f0 by rw [hw3]; exact FrB.new rfl)
        have hb3 : Below w1.heap.size w1 w3 := by rw [hw3]; exact HB2.out.alloc HB2.out.size _
        have HV3 := hid (HV0.out.below hb3); have HB3 := hid hb3
        rw [← hw3]
        obtain ⟨b3, hb3'⟩ : ∃ b, b = w2.heap.size := ⟨_, rfl⟩
        rw [← hb3'] at HF3
        try rw [← hb3']
        have HBN := hid (Below.refl w3.heap.size w3)
        clear hw3 hb3 hb3'
        obtain ⟨⟨y0, y1⟩, _, _⟩ := HF3.out.cells
        have hc := HV3.out.cells
        have i7 := hc.k7; have i8 := hc.k8; have i9 := hc.k9; have i10 := hc.k10; have i11 := hc.k11; have i12 := hc.k12; have i13 := hc.k13; have i14 := hc.k14
        clear hc
        go_wp2_with (first | (go_at_call 59; with_reducible refine (HVX.out _).mono ?_; rintro e wz ⟨rfl, hbz⟩; have HBN := hid (bnext0 HBN.out hbz); clear hbz i7 i8 i9 i10 i11 i12 i13 i14 y0 y1; have hc := (HV3.out.below HBN.out).cells; have i7 := hc.k7; have i8 := hc.k8; have i9 := hc.k9; have i10 := hc.k10; have i11 := hc.k11; have i12 := hc.k12; have i13 := hc.k13; have i14 := hc.k14; clear hc; obtain ⟨⟨y0, y1⟩, _, _⟩ := (HF3.out.below HBN.out).cells) | (go_at_call 59; with_reducible refine (HVY.out _).mono ?_; rintro e wz ⟨rfl, hbz⟩; have HBN := hid (bnext0 HBN.out hbz); clear hbz i7 i8 i9 i10 i11 i12 i13 i14 y0 y1; have hc := (HV3.out.below HBN.out).cells; have i7 := hc.k7; have i8 := hc.k8; have i9 := hc.k9; have i10 := hc.k10; have i11 := hc.k11; have i12 := hc.k12; have i13 := hc.k13; have i14 := hc.k14; clear hc; obtain ⟨⟨y0, y1⟩, _, _⟩ := (HF3.out.below HBN.out).cells) | (go_at_call 59; with_reducible refine (HVW.out _).mono ?_; rintro e wz ⟨rfl, hbz⟩; have HBN := hid (bnext0 HBN.out hbz); clear hbz i7 i8 i9 i10 i11 i12 i13 i14 y0 y1; have hc := (HV3.out.below HBN.out).cells; have i7 := hc.k7; have i8 := hc.k8; have i9 := hc.k9; have i10 := hc.k10; have i11 := hc.k11; have i12 := hc.k12; have i13 := hc.k13; have i14 := hc.k14; clear hc; obtain ⟨⟨y0, y1⟩, _, _⟩ := (HF3.out.below HBN.out).cells))
        go_ret
        exact ⟨by rw [HX.out]; rfl, (HB1.out.trans (HB3.out.mono HB1.out.size)).trans (HBN.out.mono (by have := HB1.out.size; have := HB3.out.size; omega))⟩
      | true =>
        cases e3 : okB b.h with
        | false =>
          have HX := hid (HPF.out fun h => (by rw [okB_t h.h] at e3; cases e3))
          clear hxe hye HPT HPF hcw hch
          go_enter Try.func102, Try.ntmps102
          go_upto_region 1 with (fail)
          rw [← HW1.out, ← HB0.out]
          go_upto_region 2 with (first | (go_at_call 80; refine (HWH.out _).mono ?_; rintro e w2 ⟨rfl, hb2⟩; have HB2 := hid hb2; clear hb2))
          obtain ⟨w3, hw3⟩ : ∃ w3, w3 = w2.alloc (.cells #[.int .i64 f0.n, .int .i64 f0.d] 52) := ⟨_, rfl⟩
          have HF3 := hid (show FrB w3 w2.heap.size f0 by rw [hw3]; exact FrB.new rfl)
          have hb3 : Below w1.heap.size w1 w3 := by rw [hw3]; exact HB2.out.alloc HB2.out.size _
          have HV3 := hid (HV0.out.below hb3); have HB3 := hid hb3
          rw [← hw3]
          obtain ⟨b3, hb3'⟩ : ∃ b, b = w2.heap.size := ⟨_, rfl⟩
          rw [← hb3'] at HF3
          try rw [← hb3']
          have HBN := hid (Below.refl w3.heap.size w3)
          clear hw3 hb3 hb3'
          obtain ⟨⟨y0, y1⟩, _, _⟩ := HF3.out.cells
          have hc := HV3.out.cells
          have i7 := hc.k7; have i8 := hc.k8; have i9 := hc.k9; have i10 := hc.k10; have i11 := hc.k11; have i12 := hc.k12; have i13 := hc.k13; have i14 := hc.k14
          clear hc
          go_wp2_with (first | (go_at_call 59; with_reducible refine (HVX.out _).mono ?_; rintro e wz ⟨rfl, hbz⟩; have HBN := hid (bnext0 HBN.out hbz); clear hbz i7 i8 i9 i10 i11 i12 i13 i14 y0 y1; have hc := (HV3.out.below HBN.out).cells; have i7 := hc.k7; have i8 := hc.k8; have i9 := hc.k9; have i10 := hc.k10; have i11 := hc.k11; have i12 := hc.k12; have i13 := hc.k13; have i14 := hc.k14; clear hc; obtain ⟨⟨y0, y1⟩, _, _⟩ := (HF3.out.below HBN.out).cells) | (go_at_call 59; with_reducible refine (HVY.out _).mono ?_; rintro e wz ⟨rfl, hbz⟩; have HBN := hid (bnext0 HBN.out hbz); clear hbz i7 i8 i9 i10 i11 i12 i13 i14 y0 y1; have hc := (HV3.out.below HBN.out).cells; have i7 := hc.k7; have i8 := hc.k8; have i9 := hc.k9; have i10 := hc.k10; have i11 := hc.k11; have i12 := hc.k12; have i13 := hc.k13; have i14 := hc.k14; clear hc; obtain ⟨⟨y0, y1⟩, _, _⟩ := (HF3.out.below HBN.out).cells) | (go_at_call 59; with_reducible refine (HVW.out _).mono ?_; rintro e wz ⟨rfl, hbz⟩; have HBN := hid (bnext0 HBN.out hbz); clear hbz i7 i8 i9 i10 i11 i12 i13 i14 y0 y1; have hc := (HV3.out.below HBN.out).cells; have i7 := hc.k7; have i8 := hc.k8; have i9 := hc.k9; have i10 := hc.k10; have i11 := hc.k11; have i12 := hc.k12; have i13 := hc.k13; have i14 := hc.k14; clear hc; obtain ⟨⟨y0, y1⟩, _, _⟩ := (HF3.out.below HBN.out).cells) | (go_at_call 59; with_reducible refine (HVH.out _).mono ?_; rintro e wz ⟨rfl, hbz⟩; have HBN := hid (bnext0 HBN.out hbz); clear hbz i7 i8 i9 i10 i11 i12 i13 i14 y0 y1; have hc := (HV3.out.below HBN.out).cells; have i7 := hc.k7; have i8 := hc.k8; have i9 := hc.k9; have i10 := hc.k10; have i11 := hc.k11; have i12 := hc.k12; have i13 := hc.k13; have i14 := hc.k14; clear hc; obtain ⟨⟨y0, y1⟩, _, _⟩ := (HF3.out.below HBN.out).cells))
          go_ret
          exact ⟨by rw [HX.out]; rfl, (HB1.out.trans (HB3.out.mono HB1.out.size)).trans (HBN.out.mono (by have := HB1.out.size; have := HB3.out.size; omega))⟩
        | true =>
          replace HAE := hid (HAE.out e0 e2)
          replace HAF := hid (HAF.out e1 e3)
          replace HCW := hid (HCW.out e2)
          replace HCH := hid (HCH.out e3)
          by_cases n0 : 0 < b.w.n
          rotate_left
          · have HX := hid (HPF.out fun h => n0 h.w0)
            have d0 : decide (cw ≤ 0) = true := decide_eq_true (hcw.2 n0)
            clear hxe hye HPT HPF n0 hcw hch
            go_enter Try.func102, Try.ntmps102
            go_upto_region 1 with (fail)
            rw [← HW1.out, ← HB0.out]
            go_upto_region 2 with (first | (go_at_call 80; refine (HWH.out _).mono ?_; rintro e w2 ⟨rfl, hb2⟩; have HB2 := hid hb2; clear hb2))
            obtain ⟨w3, hw3⟩ : ∃ w3, w3 = w2.alloc (.cells #[.int .i64 f0.n, .int .i64 f0.d] 52) := ⟨_, rfl⟩
            have HF3 := hid (show FrB w3 w2.heap.size f0 by rw [hw3]; exact FrB.new rfl)
            have hb3 : Below w1.heap.size w1 w3 := by rw [hw3]; exact HB2.out.alloc HB2.out.size _
            have HV3 := hid (HV0.out.below hb3); have HB3 := hid hb3
            rw [← hw3]
            obtain ⟨b3, hb3'⟩ : ∃ b, b = w2.heap.size := ⟨_, rfl⟩
            rw [← hb3'] at HF3
            try rw [← hb3']
            have HBN := hid (Below.refl w3.heap.size w3)
            clear hw3 hb3 hb3'
            obtain ⟨⟨y0, y1⟩, _, _⟩ := HF3.out.cells
            have hc := HV3.out.cells
            have i7 := hc.k7; have i8 := hc.k8; have i9 := hc.k9; have i10 := hc.k10; have i11 := hc.k11; have i12 := hc.k12; have i13 := hc.k13; have i14 := hc.k14
            clear hc
            go_wp2_with (first | (go_at_call 59; with_reducible refine (HVX.out _).mono ?_; rintro e wz ⟨rfl, hbz⟩; have HBN := hid (bnext0 HBN.out hbz); clear hbz i7 i8 i9 i10 i11 i12 i13 i14 y0 y1; have hc := (HV3.out.below HBN.out).cells; have i7 := hc.k7; have i8 := hc.k8; have i9 := hc.k9; have i10 := hc.k10; have i11 := hc.k11; have i12 := hc.k12; have i13 := hc.k13; have i14 := hc.k14; clear hc; obtain ⟨⟨y0, y1⟩, _, _⟩ := (HF3.out.below HBN.out).cells) | (go_at_call 59; with_reducible refine (HVY.out _).mono ?_; rintro e wz ⟨rfl, hbz⟩; have HBN := hid (bnext0 HBN.out hbz); clear hbz i7 i8 i9 i10 i11 i12 i13 i14 y0 y1; have hc := (HV3.out.below HBN.out).cells; have i7 := hc.k7; have i8 := hc.k8; have i9 := hc.k9; have i10 := hc.k10; have i11 := hc.k11; have i12 := hc.k12; have i13 := hc.k13; have i14 := hc.k14; clear hc; obtain ⟨⟨y0, y1⟩, _, _⟩ := (HF3.out.below HBN.out).cells) | (go_at_call 59; with_reducible refine (HVW.out _).mono ?_; rintro e wz ⟨rfl, hbz⟩; have HBN := hid (bnext0 HBN.out hbz); clear hbz i7 i8 i9 i10 i11 i12 i13 i14 y0 y1; have hc := (HV3.out.below HBN.out).cells; have i7 := hc.k7; have i8 := hc.k8; have i9 := hc.k9; have i10 := hc.k10; have i11 := hc.k11; have i12 := hc.k12; have i13 := hc.k13; have i14 := hc.k14; clear hc; obtain ⟨⟨y0, y1⟩, _, _⟩ := (HF3.out.below HBN.out).cells) | (go_at_call 59; with_reducible refine (HVH.out _).mono ?_; rintro e wz ⟨rfl, hbz⟩; have HBN := hid (bnext0 HBN.out hbz); clear hbz i7 i8 i9 i10 i11 i12 i13 i14 y0 y1; have hc := (HV3.out.below HBN.out).cells; have i7 := hc.k7; have i8 := hc.k8; have i9 := hc.k9; have i10 := hc.k10; have i11 := hc.k11; have i12 := hc.k12; have i13 := hc.k13; have i14 := hc.k14; clear hc; obtain ⟨⟨y0, y1⟩, _, _⟩ := (HF3.out.below HBN.out).cells) | (go_at_call 60; with_reducible refine (HCW.out _).mono ?_; rintro e wz ⟨rfl, hbz⟩; have HBN := hid (bnext0 HBN.out hbz); clear hbz i7 i8 i9 i10 i11 i12 i13 i14 y0 y1; have hc := (HV3.out.below HBN.out).cells; have i7 := hc.k7; have i8 := hc.k8; have i9 := hc.k9; have i10 := hc.k10; have i11 := hc.k11; have i12 := hc.k12; have i13 := hc.k13; have i14 := hc.k14; clear hc; obtain ⟨⟨y0, y1⟩, _, _⟩ := (HF3.out.below HBN.out).cells))
            go_ret
            exact ⟨by rw [HX.out]; rfl, (HB1.out.trans (HB3.out.mono HB1.out.size)).trans (HBN.out.mono (by have := HB1.out.size; have := HB3.out.size; omega))⟩
          have d0 : decide (cw ≤ 0) = false := decide_eq_false fun h => hcw.1 h n0
          by_cases n1 : 0 < b.h.n
          rotate_left
          · have HX := hid (HPF.out fun h => n1 h.h0)
            have d1 : decide (ch ≤ 0) = true := decide_eq_true (hch.2 n1)
            clear hxe hye HPT HPF n1 hcw hch n0
            go_enter Try.func102, Try.ntmps102
            go_upto_region 1 with (fail)
            rw [← HW1.out, ← HB0.out]
            go_upto_region 2 with (first | (go_at_call 80; refine (HWH.out _).mono ?_; rintro e w2 ⟨rfl, hb2⟩; have HB2 := hid hb2; clear hb2))
            obtain ⟨w3, hw3⟩ : ∃ w3, w3 = w2.alloc (.cells #[.int .i64 f0.n, .int .i64 f0.d] 52) := ⟨_, rfl⟩
            have HF3 := hid (show FrB w3 w2.heap.size f0 by rw [hw3]; exact FrB.new rfl)
            have hb3 : Below w1.heap.size w1 w3 := by rw [hw3]; exact HB2.out.alloc HB2.out.size _
            have HV3 := hid (HV0.out.below hb3); have HB3 := hid hb3
            rw [← hw3]
            obtain ⟨b3, hb3'⟩ : ∃ b, b = w2.heap.size := ⟨_, rfl⟩
            rw [← hb3'] at HF3
            try rw [← hb3']
            have HBN := hid (Below.refl w3.heap.size w3)
            clear hw3 hb3 hb3'
            obtain ⟨⟨y0, y1⟩, _, _⟩ := HF3.out.cells
            have hc := HV3.out.cells
            have i7 := hc.k7; have i8 := hc.k8; have i9 := hc.k9; have i10 := hc.k10; have i11 := hc.k11; have i12 := hc.k12; have i13 := hc.k13; have i14 := hc.k14
            clear hc
            go_wp2_with (first | (go_at_call 59; with_reducible refine (HVX.out _).mono ?_; rintro e wz ⟨rfl, hbz⟩; have HBN := hid (bnext0 HBN.out hbz); clear hbz i7 i8 i9 i10 i11 i12 i13 i14 y0 y1; have hc := (HV3.out.below HBN.out).cells; have i7 := hc.k7; have i8 := hc.k8; have i9 := hc.k9; have i10 := hc.k10; have i11 := hc.k11; have i12 := hc.k12; have i13 := hc.k13; have i14 := hc.k14; clear hc; obtain ⟨⟨y0, y1⟩, _, _⟩ := (HF3.out.below HBN.out).cells) | (go_at_call 59; with_reducible refine (HVY.out _).mono ?_; rintro e wz ⟨rfl, hbz⟩; have HBN := hid (bnext0 HBN.out hbz); clear hbz i7 i8 i9 i10 i11 i12 i13 i14 y0 y1; have hc := (HV3.out.below HBN.out).cells; have i7 := hc.k7; have i8 := hc.k8; have i9 := hc.k9; have i10 := hc.k10; have i11 := hc.k11; have i12 := hc.k12; have i13 := hc.k13; have i14 := hc.k14; clear hc; obtain ⟨⟨y0, y1⟩, _, _⟩ := (HF3.out.below HBN.out).cells) | (go_at_call 59; with_reducible refine (HVW.out _).mono ?_; rintro e wz ⟨rfl, hbz⟩; have HBN := hid (bnext0 HBN.out hbz); clear hbz i7 i8 i9 i10 i11 i12 i13 i14 y0 y1; have hc := (HV3.out.below HBN.out).cells; have i7 := hc.k7; have i8 := hc.k8; have i9 := hc.k9; have i10 := hc.k10; have i11 := hc.k11; have i12 := hc.k12; have i13 := hc.k13; have i14 := hc.k14; clear hc; obtain ⟨⟨y0, y1⟩, _, _⟩ := (HF3.out.below HBN.out).cells) | (go_at_call 59; with_reducible refine (HVH.out _).mono ?_; rintro e wz ⟨rfl, hbz⟩; have HBN := hid (bnext0 HBN.out hbz); clear hbz i7 i8 i9 i10 i11 i12 i13 i14 y0 y1; have hc := (HV3.out.below HBN.out).cells; have i7 := hc.k7; have i8 := hc.k8; have i9 := hc.k9; have i10 := hc.k10; have i11 := hc.k11; have i12 := hc.k12; have i13 := hc.k13; have i14 := hc.k14; clear hc; obtain ⟨⟨y0, y1⟩, _, _⟩ := (HF3.out.below HBN.out).cells) | (go_at_call 60; with_reducible refine (HCW.out _).mono ?_; rintro e wz ⟨rfl, hbz⟩; have HBN := hid (bnext0 HBN.out hbz); clear hbz i7 i8 i9 i10 i11 i12 i13 i14 y0 y1; have hc := (HV3.out.below HBN.out).cells; have i7 := hc.k7; have i8 := hc.k8; have i9 := hc.k9; have i10 := hc.k10; have i11 := hc.k11; have i12 := hc.k12; have i13 := hc.k13; have i14 := hc.k14; clear hc; obtain ⟨⟨y0, y1⟩, _, _⟩ := (HF3.out.below HBN.out).cells) | (go_at_call 60; with_reducible refine (HCH.out _).mono ?_; rintro e wz ⟨rfl, hbz⟩; have HBN := hid (bnext0 HBN.out hbz); clear hbz i7 i8 i9 i10 i11 i12 i13 i14 y0 y1; have hc := (HV3.out.below HBN.out).cells; have i7 := hc.k7; have i8 := hc.k8; have i9 := hc.k9; have i10 := hc.k10; have i11 := hc.k11; have i12 := hc.k12; have i13 := hc.k13; have i14 := hc.k14; clear hc; obtain ⟨⟨y0, y1⟩, _, _⟩ := (HF3.out.below HBN.out).cells))
            go_ret
            exact ⟨by rw [HX.out]; rfl, (HB1.out.trans (HB3.out.mono HB1.out.size)).trans (HBN.out.mono (by have := HB1.out.size; have := HB3.out.size; omega))⟩
          have d1 : decide (ch ≤ 0) = false := decide_eq_false fun h => hch.1 h n1
          cases e4 : okB fe with
          | false =>
            have HX := hid (HPF.out fun h => (by have h2 := h.xe; rw [hxe] at h2; rw [okB_t h2] at e4; cases e4))
            clear hxe hye HPT HPF n0 n1 hcw hch
            go_enter Try.func102, Try.ntmps102
            go_upto_region 1 with (fail)
            rw [← HW1.out, ← HB0.out]
            go_upto_region 2 with (first | (go_at_call 80; refine (HWH.out _).mono ?_; rintro e w2 ⟨rfl, hb2⟩; have HB2 := hid hb2; clear hb2))
            obtain ⟨w3, hw3⟩ : ∃ w3, w3 = w2.alloc (.cells #[.int .i64 f0.n, .int .i64 f0.d] 52) := ⟨_, rfl⟩
            have HF3 := hid (show FrB w3 w2.heap.size f0 by rw [hw3]; exact FrB.new rfl)
            have hb3 : Below w1.heap.size w1 w3 := by rw [hw3]; exact HB2.out.alloc HB2.out.size _
            have HV3 := hid (HV0.out.below hb3); have HB3 := hid hb3
            rw [← hw3]
            obtain ⟨b3, hb3'⟩ : ∃ b, b = w2.heap.size := ⟨_, rfl⟩
            rw [← hb3'] at HF3
            try rw [← hb3']
            have HBN := hid (Below.refl w3.heap.size w3)
            clear hw3 hb3 hb3'
            obtain ⟨⟨y0, y1⟩, _, _⟩ := HF3.out.cells
            have hc := HV3.out.cells
            have i7 := hc.k7; have i8 := hc.k8; have i9 := hc.k9; have i10 := hc.k10; have i11 := hc.k11; have i12 := hc.k12; have i13 := hc.k13; have i14 := hc.k14
            clear hc
            go_wp2_with (first | (go_at_call 59; with_reducible refine (HVX.out _).mono ?_; rintro e wz ⟨rfl, hbz⟩; have HBN := hid (bnext0 HBN.out hbz); clear hbz i7 i8 i9 i10 i11 i12 i13 i14 y0 y1; have hc := (HV3.out.below HBN.out).cells; have i7 := hc.k7; have i8 := hc.k8; have i9 := hc.k9; have i10 := hc.k10; have i11 := hc.k11; have i12 := hc.k12; have i13 := hc.k13; have i14 := hc.k14; clear hc; obtain ⟨⟨y0, y1⟩, _, _⟩ := (HF3.out.below HBN.out).cells) | (go_at_call 59; with_reducible refine (HVY.out _).mono ?_; rintro e wz ⟨rfl, hbz⟩; have HBN := hid (bnext0 HBN.out hbz); clear hbz i7 i8 i9 i10 i11 i12 i13 i14 y0 y1; have hc := (HV3.out.below HBN.out).cells; have i7 := hc.k7; have i8 := hc.k8; have i9 := hc.k9; have i10 := hc.k10; have i11 := hc.k11; have i12 := hc.k12; have i13 := hc.k13; have i14 := hc.k14; clear hc; obtain ⟨⟨y0, y1⟩, _, _⟩ := (HF3.out.below HBN.out).cells) | (go_at_call 59; with_reducible refine (HVW.out _).mono ?_; rintro e wz ⟨rfl, hbz⟩; have HBN := hid (bnext0 HBN.out hbz); clear hbz i7 i8 i9 i10 i11 i12 i13 i14 y0 y1; have hc := (HV3.out.below HBN.out).cells; have i7 := hc.k7; have i8 := hc.k8; have i9 := hc.k9; have i10 := hc.k10; have i11 := hc.k11; have i12 := hc.k12; have i13 := hc.k13; have i14 := hc.k14; clear hc; obtain ⟨⟨y0, y1⟩, _, _⟩ := (HF3.out.below HBN.out).cells) | (go_at_call 59; with_reducible refine (HVH.out _).mono ?_; rintro e wz ⟨rfl, hbz⟩; have HBN := hid (bnext0 HBN.out hbz); clear hbz i7 i8 i9 i10 i11 i12 i13 i14 y0 y1; have hc := (HV3.out.below HBN.out).cells; have i7 := hc.k7; have i8 := hc.k8; have i9 := hc.k9; have i10 := hc.k10; have i11 := hc.k11; have i12 := hc.k12; have i13 := hc.k13; have i14 := hc.k14; clear hc; obtain ⟨⟨y0, y1⟩, _, _⟩ := (HF3.out.below HBN.out).cells) | (go_at_call 60; with_reducible refine (HCW.out _).mono ?_; rintro e wz ⟨rfl, hbz⟩; have HBN := hid (bnext0 HBN.out hbz); clear hbz i7 i8 i9 i10 i11 i12 i13 i14 y0 y1; have hc := (HV3.out.below HBN.out).cells; have i7 := hc.k7; have i8 := hc.k8; have i9 := hc.k9; have i10 := hc.k10; have i11 := hc.k11; have i12 := hc.k12; have i13 := hc.k13; have i14 := hc.k14; clear hc; obtain ⟨⟨y0, y1⟩, _, _⟩ := (HF3.out.below HBN.out).cells) | (go_at_call 60; with_reducible refine (HCH.out _).mono ?_; rintro e wz ⟨rfl, hbz⟩; have HBN := hid (bnext0 HBN.out hbz); clear hbz i7 i8 i9 i10 i11 i12 i13 i14 y0 y1; have hc := (HV3.out.below HBN.out).cells; have i7 := hc.k7; have i8 := hc.k8; have i9 := hc.k9; have i10 := hc.k10; have i11 := hc.k11; have i12 := hc.k12; have i13 := hc.k13; have i14 := hc.k14; clear hc; obtain ⟨⟨y0, y1⟩, _, _⟩ := (HF3.out.below HBN.out).cells) | (go_at_call 69; with_reducible refine (HAE.out _).mono ?_; rintro e wz ⟨rfl, hbz⟩; have HBN := hid (bnext0 HBN.out hbz); clear hbz i7 i8 i9 i10 i11 i12 i13 i14 y0 y1; have hc := (HV3.out.below HBN.out).cells; have i7 := hc.k7; have i8 := hc.k8; have i9 := hc.k9; have i10 := hc.k10; have i11 := hc.k11; have i12 := hc.k12; have i13 := hc.k13; have i14 := hc.k14; clear hc; obtain ⟨⟨y0, y1⟩, _, _⟩ := (HF3.out.below HBN.out).cells) | (go_at_call 59; with_reducible refine (HVE.out _).mono ?_; rintro e wz ⟨rfl, hbz⟩; have HBN := hid (bnext0 HBN.out hbz); clear hbz i7 i8 i9 i10 i11 i12 i13 i14 y0 y1; have hc := (HV3.out.below HBN.out).cells; have i7 := hc.k7; have i8 := hc.k8; have i9 := hc.k9; have i10 := hc.k10; have i11 := hc.k11; have i12 := hc.k12; have i13 := hc.k13; have i14 := hc.k14; clear hc; obtain ⟨⟨y0, y1⟩, _, _⟩ := (HF3.out.below HBN.out).cells))
            go_ret
            exact ⟨by rw [HX.out]; rfl, (HB1.out.trans (HB3.out.mono HB1.out.size)).trans (HBN.out.mono (by have := HB1.out.size; have := HB3.out.size; omega))⟩
          | true =>
            cases e5 : okB ff with
            | false =>
              have HX := hid (HPF.out fun h => (by have h2 := h.ye; rw [hye] at h2; rw [okB_t h2] at e5; cases e5))
              clear hxe hye HPT HPF n0 n1 hcw hch
              go_enter Try.func102, Try.ntmps102
              go_upto_region 1 with (fail)
              rw [← HW1.out, ← HB0.out]
              go_upto_region 2 with (first | (go_at_call 80; refine (HWH.out _).mono ?_; rintro e w2 ⟨rfl, hb2⟩; have HB2 := hid hb2; clear hb2))
              obtain ⟨w3, hw3⟩ : ∃ w3, w3 = w2.alloc (.cells #[.int .i64 f0.n, .int .i64 f0.d] 52) := ⟨_, rfl⟩
              have HF3 := hid (show FrB w3 w2.heap.size f0 by rw [hw3]; exact FrB.new rfl)
              have hb3 : Below w1.heap.size w1 w3 := by rw [hw3]; exact HB2.out.alloc HB2.out.size _
              have HV3 := hid (HV0.out.below hb3); have HB3 := hid hb3
              rw [← hw3]
              obtain ⟨b3, hb3'⟩ : ∃ b, b = w2.heap.size := ⟨_, rfl⟩
              rw [← hb3'] at HF3
              try rw [← hb3']
              have HBN := hid (Below.refl w3.heap.size w3)
              clear hw3 hb3 hb3'
              obtain ⟨⟨y0, y1⟩, _, _⟩ := HF3.out.cells
              have hc := HV3.out.cells
              have i7 := hc.k7; have i8 := hc.k8; have i9 := hc.k9; have i10 := hc.k10; have i11 := hc.k11; have i12 := hc.k12; have i13 := hc.k13; have i14 := hc.k14
              clear hc
              go_wp2_with (first | (go_at_call 59; with_reducible refine (HVX.out _).mono ?_; rintro e wz ⟨rfl, hbz⟩; have HBN := hid (bnext0 HBN.out hbz); clear hbz i7 i8 i9 i10 i11 i12 i13 i14 y0 y1; have hc := (HV3.out.below HBN.out).cells; have i7 := hc.k7; have i8 := hc.k8; have i9 := hc.k9; have i10 := hc.k10; have i11 := hc.k11; have i12 := hc.k12; have i13 := hc.k13; have i14 := hc.k14; clear hc; obtain ⟨⟨y0, y1⟩, _, _⟩ := (HF3.out.below HBN.out).cells) | (go_at_call 59; with_reducible refine (HVY.out _).mono ?_; rintro e wz ⟨rfl, hbz⟩; have HBN := hid (bnext0 HBN.out hbz); clear hbz i7 i8 i9 i10 i11 i12 i13 i14 y0 y1; have hc := (HV3.out.below HBN.out).cells; have i7 := hc.k7; have i8 := hc.k8; have i9 := hc.k9; have i10 := hc.k10; have i11 := hc.k11; have i12 := hc.k12; have i13 := hc.k13; have i14 := hc.k14; clear hc; obtain ⟨⟨y0, y1⟩, _, _⟩ := (HF3.out.below HBN.out).cells) | (go_at_call 59; with_reducible refine (HVW.out _).mono ?_; rintro e wz ⟨rfl, hbz⟩; have HBN := hid (bnext0 HBN.out hbz); clear hbz i7 i8 i9 i10 i11 i12 i13 i14 y0 y1; have hc := (HV3.out.below HBN.out).cells; have i7 := hc.k7; have i8 := hc.k8; have i9 := hc.k9; have i10 := hc.k10; have i11 := hc.k11; have i12 := hc.k12; have i13 := hc.k13; have i14 := hc.k14; clear hc; obtain ⟨⟨y0, y1⟩, _, _⟩ := (HF3.out.below HBN.out).cells) | (go_at_call 59; with_reducible refine (HVH.out _).mono ?_; rintro e wz ⟨rfl, hbz⟩; have HBN := hid (bnext0 HBN.out hbz); clear hbz i7 i8 i9 i10 i11 i12 i13 i14 y0 y1; have hc := (HV3.out.below HBN.out).cells; have i7 := hc.k7; have i8 := hc.k8; have i9 := hc.k9; have i10 := hc.k10; have i11 := hc.k11; have i12 := hc.k12; have i13 := hc.k13; have i14 := hc.k14; clear hc; obtain ⟨⟨y0, y1⟩, _, _⟩ := (HF3.out.below HBN.out).cells) | (go_at_call 60; with_reducible refine (HCW.out _).mono ?_; rintro e wz ⟨rfl, hbz⟩; have HBN := hid (bnext0 HBN.out hbz); clear hbz i7 i8 i9 i10 i11 i12 i13 i14 y0 y1; have hc := (HV3.out.below HBN.out).cells; have i7 := hc.k7; have i8 := hc.k8; have i9 := hc.k9; have i10 := hc.k10; have i11 := hc.k11; have i12 := hc.k12; have i13 := hc.k13; have i14 := hc.k14; clear hc; obtain ⟨⟨y0, y1⟩, _, _⟩ := (HF3.out.below HBN.out).cells) | (go_at_call 60; with_reducible refine (HCH.out _).mono ?_; rintro e wz ⟨rfl, hbz⟩; have HBN := hid (bnext0 HBN.out hbz); clear hbz i7 i8 i9 i10 i11 i12 i13 i14 y0 y1; have hc := (HV3.out.below HBN.out).cells; have i7 := hc.k7; have i8 := hc.k8; have i9 := hc.k9; have i10 := hc.k10; have i11 := hc.k11; have i12 := hc.k12; have i13 := hc.k13; have i14 := hc.k14; clear hc; obtain ⟨⟨y0, y1⟩, _, _⟩ := (HF3.out.below HBN.out).cells) | (go_at_call 69; with_reducible refine (HAE.out _).mono ?_; rintro e wz ⟨rfl, hbz⟩; have HBN := hid (bnext0 HBN.out hbz); clear hbz i7 i8 i9 i10 i11 i12 i13 i14 y0 y1; have hc := (HV3.out.below HBN.out).cells; have i7 := hc.k7; have i8 := hc.k8; have i9 := hc.k9; have i10 := hc.k10; have i11 := hc.k11; have i12 := hc.k12; have i13 := hc.k13; have i14 := hc.k14; clear hc; obtain ⟨⟨y0, y1⟩, _, _⟩ := (HF3.out.below HBN.out).cells) | (go_at_call 59; with_reducible refine (HVE.out _).mono ?_; rintro e wz ⟨rfl, hbz⟩; have HBN := hid (bnext0 HBN.out hbz); clear hbz i7 i8 i9 i10 i11 i12 i13 i14 y0 y1; have hc := (HV3.out.below HBN.out).cells; have i7 := hc.k7; have i8 := hc.k8; have i9 := hc.k9; have i10 := hc.k10; have i11 := hc.k11; have i12 := hc.k12; have i13 := hc.k13; have i14 := hc.k14; clear hc; obtain ⟨⟨y0, y1⟩, _, _⟩ := (HF3.out.below HBN.out).cells) | (go_at_call 69; with_reducible refine (HAF.out _).mono ?_; rintro e wz ⟨rfl, hbz⟩; have HBN := hid (bnext0 HBN.out hbz); clear hbz i7 i8 i9 i10 i11 i12 i13 i14 y0 y1; have hc := (HV3.out.below HBN.out).cells; have i7 := hc.k7; have i8 := hc.k8; have i9 := hc.k9; have i10 := hc.k10; have i11 := hc.k11; have i12 := hc.k12; have i13 := hc.k13; have i14 := hc.k14; clear hc; obtain ⟨⟨y0, y1⟩, _, _⟩ := (HF3.out.below HBN.out).cells) | (go_at_call 59; with_reducible refine (HVF.out _).mono ?_; rintro e wz ⟨rfl, hbz⟩; have HBN := hid (bnext0 HBN.out hbz); clear hbz i7 i8 i9 i10 i11 i12 i13 i14 y0 y1; have hc := (HV3.out.below HBN.out).cells; have i7 := hc.k7; have i8 := hc.k8; have i9 := hc.k9; have i10 := hc.k10; have i11 := hc.k11; have i12 := hc.k12; have i13 := hc.k13; have i14 := hc.k14; clear hc; obtain ⟨⟨y0, y1⟩, _, _⟩ := (HF3.out.below HBN.out).cells))
              go_ret
              exact ⟨by rw [HX.out]; rfl, (HB1.out.trans (HB3.out.mono HB1.out.size)).trans (HBN.out.mono (by have := HB1.out.size; have := HB3.out.size; omega))⟩
            | true =>
              have HX := hid (HPT.out ⟨okB_iff.1 e0, okB_iff.1 e1, okB_iff.1 e2, okB_iff.1 e3, n0, n1, by rw [hxe]; exact okB_iff.1 e4, by rw [hye]; exact okB_iff.1 e5⟩)
              clear hxe hye HPT HPF n0 n1 hcw hch
              go_enter Try.func102, Try.ntmps102
              go_upto_region 1 with (fail)
              rw [← HW1.out, ← HB0.out]
              go_upto_region 2 with (first | (go_at_call 80; refine (HWH.out _).mono ?_; rintro e w2 ⟨rfl, hb2⟩; have HB2 := hid hb2; clear hb2))
              obtain ⟨w3, hw3⟩ : ∃ w3, w3 = w2.alloc (.cells #[.int .i64 f0.n, .int .i64 f0.d] 52) := ⟨_, rfl⟩
              have HF3 := hid (show FrB w3 w2.heap.size f0 by rw [hw3]; exact FrB.new rfl)
              have hb3 : Below w1.heap.size w1 w3 := by rw [hw3]; exact HB2.out.alloc HB2.out.size _
              have HV3 := hid (HV0.out.below hb3); have HB3 := hid hb3
              rw [← hw3]
              obtain ⟨b3, hb3'⟩ : ∃ b, b = w2.heap.size := ⟨_, rfl⟩
              rw [← hb3'] at HF3
              try rw [← hb3']
              have HBN := hid (Below.refl w3.heap.size w3)
              clear hw3 hb3 hb3'
              obtain ⟨⟨y0, y1⟩, _, _⟩ := HF3.out.cells
              have hc := HV3.out.cells
              have i7 := hc.k7; have i8 := hc.k8; have i9 := hc.k9; have i10 := hc.k10; have i11 := hc.k11; have i12 := hc.k12; have i13 := hc.k13; have i14 := hc.k14
              clear hc
              go_wp2_with (first | (go_at_call 59; with_reducible refine (HVX.out _).mono ?_; rintro e wz ⟨rfl, hbz⟩; have HBN := hid (bnext0 HBN.out hbz); clear hbz i7 i8 i9 i10 i11 i12 i13 i14 y0 y1; have hc := (HV3.out.below HBN.out).cells; have i7 := hc.k7; have i8 := hc.k8; have i9 := hc.k9; have i10 := hc.k10; have i11 := hc.k11; have i12 := hc.k12; have i13 := hc.k13; have i14 := hc.k14; clear hc; obtain ⟨⟨y0, y1⟩, _, _⟩ := (HF3.out.below HBN.out).cells) | (go_at_call 59; with_reducible refine (HVY.out _).mono ?_; rintro e wz ⟨rfl, hbz⟩; have HBN := hid (bnext0 HBN.out hbz); clear hbz i7 i8 i9 i10 i11 i12 i13 i14 y0 y1; have hc := (HV3.out.below HBN.out).cells; have i7 := hc.k7; have i8 := hc.k8; have i9 := hc.k9; have i10 := hc.k10; have i11 := hc.k11; have i12 := hc.k12; have i13 := hc.k13; have i14 := hc.k14; clear hc; obtain ⟨⟨y0, y1⟩, _, _⟩ := (HF3.out.below HBN.out).cells) | (go_at_call 59; with_reducible refine (HVW.out _).mono ?_; rintro e wz ⟨rfl, hbz⟩; have HBN := hid (bnext0 HBN.out hbz); clear hbz i7 i8 i9 i10 i11 i12 i13 i14 y0 y1; have hc := (HV3.out.below HBN.out).cells; have i7 := hc.k7; have i8 := hc.k8; have i9 := hc.k9; have i10 := hc.k10; have i11 := hc.k11; have i12 := hc.k12; have i13 := hc.k13; have i14 := hc.k14; clear hc; obtain ⟨⟨y0, y1⟩, _, _⟩ := (HF3.out.below HBN.out).cells) | (go_at_call 59; with_reducible refine (HVH.out _).mono ?_; rintro e wz ⟨rfl, hbz⟩; have HBN := hid (bnext0 HBN.out hbz); clear hbz i7 i8 i9 i10 i11 i12 i13 i14 y0 y1; have hc := (HV3.out.below HBN.out).cells; have i7 := hc.k7; have i8 := hc.k8; have i9 := hc.k9; have i10 := hc.k10; have i11 := hc.k11; have i12 := hc.k12; have i13 := hc.k13; have i14 := hc.k14; clear hc; obtain ⟨⟨y0, y1⟩, _, _⟩ := (HF3.out.below HBN.out).cells) | (go_at_call 60; with_reducible refine (HCW.out _).mono ?_; rintro e wz ⟨rfl, hbz⟩; have HBN := hid (bnext0 HBN.out hbz); clear hbz i7 i8 i9 i10 i11 i12 i13 i14 y0 y1; have hc := (HV3.out.below HBN.out).cells; have i7 := hc.k7; have i8 := hc.k8; have i9 := hc.k9; have i10 := hc.k10; have i11 := hc.k11; have i12 := hc.k12; have i13 := hc.k13; have i14 := hc.k14; clear hc; obtain ⟨⟨y0, y1⟩, _, _⟩ := (HF3.out.below HBN.out).cells) | (go_at_call 60; with_reducible refine (HCH.out _).mono ?_; rintro e wz ⟨rfl, hbz⟩; have HBN := hid (bnext0 HBN.out hbz); clear hbz i7 i8 i9 i10 i11 i12 i13 i14 y0 y1; have hc := (HV3.out.below HBN.out).cells; have i7 := hc.k7; have i8 := hc.k8; have i9 := hc.k9; have i10 := hc.k10; have i11 := hc.k11; have i12 := hc.k12; have i13 := hc.k13; have i14 := hc.k14; clear hc; obtain ⟨⟨y0, y1⟩, _, _⟩ := (HF3.out.below HBN.out).cells) | (go_at_call 69; with_reducible refine (HAE.out _).mono ?_; rintro e wz ⟨rfl, hbz⟩; have HBN := hid (bnext0 HBN.out hbz); clear hbz i7 i8 i9 i10 i11 i12 i13 i14 y0 y1; have hc := (HV3.out.below HBN.out).cells; have i7 := hc.k7; have i8 := hc.k8; have i9 := hc.k9; have i10 := hc.k10; have i11 := hc.k11; have i12 := hc.k12; have i13 := hc.k13; have i14 := hc.k14; clear hc; obtain ⟨⟨y0, y1⟩, _, _⟩ := (HF3.out.below HBN.out).cells) | (go_at_call 59; with_reducible refine (HVE.out _).mono ?_; rintro e wz ⟨rfl, hbz⟩; have HBN := hid (bnext0 HBN.out hbz); clear hbz i7 i8 i9 i10 i11 i12 i13 i14 y0 y1; have hc := (HV3.out.below HBN.out).cells; have i7 := hc.k7; have i8 := hc.k8; have i9 := hc.k9; have i10 := hc.k10; have i11 := hc.k11; have i12 := hc.k12; have i13 := hc.k13; have i14 := hc.k14; clear hc; obtain ⟨⟨y0, y1⟩, _, _⟩ := (HF3.out.below HBN.out).cells) | (go_at_call 69; with_reducible refine (HAF.out _).mono ?_; rintro e wz ⟨rfl, hbz⟩; have HBN := hid (bnext0 HBN.out hbz); clear hbz i7 i8 i9 i10 i11 i12 i13 i14 y0 y1; have hc := (HV3.out.below HBN.out).cells; have i7 := hc.k7; have i8 := hc.k8; have i9 := hc.k9; have i10 := hc.k10; have i11 := hc.k11; have i12 := hc.k12; have i13 := hc.k13; have i14 := hc.k14; clear hc; obtain ⟨⟨y0, y1⟩, _, _⟩ := (HF3.out.below HBN.out).cells) | (go_at_call 59; with_reducible refine (HVF.out _).mono ?_; rintro e wz ⟨rfl, hbz⟩; have HBN := hid (bnext0 HBN.out hbz); clear hbz i7 i8 i9 i10 i11 i12 i13 i14 y0 y1; have hc := (HV3.out.below HBN.out).cells; have i7 := hc.k7; have i8 := hc.k8; have i9 := hc.k9; have i10 := hc.k10; have i11 := hc.k11; have i12 := hc.k12; have i13 := hc.k13; have i14 := hc.k14; clear hc; obtain ⟨⟨y0, y1⟩, _, _⟩ := (HF3.out.below HBN.out).cells))
              go_ret
              exact ⟨by rw [HX.out]; rfl, (HB1.out.trans (HB3.out.mono HB1.out.size)).trans (HBN.out.mono (by have := HB1.out.size; have := HB3.out.size; omega))⟩
set_option maxRecDepth 100000 in
set_option maxHeartbeats 4000000 in
theorem placedR_any (b : Bxv) (w : World) :
    Calls Try.prog 22 #[.agg #[.int .i64 b.nd.kind, .int .i64 b.nd.sign, .int .i64 b.nd.turn, .bool b.nd.mir, .int .i64 b.nd.state, .int .i64 b.nd.mn, .int .i64 b.nd.mx, .int .i64 b.x.n, .int .i64 b.x.d, .int .i64 b.y.n, .int .i64 b.y.d, .int .i64 b.w.n, .int .i64 b.w.d, .int .i64 b.h.n, .int .i64 b.h.d]] w fun e w' => e = .returned (.bool (plB b)) ∧ Below w.heap.size w w' := by
  obtain ⟨w1, hw1⟩ : ∃ w1, w1 = w.alloc (.cells #[.int .i64 b.nd.kind, .int .i64 b.nd.sign, .int .i64 b.nd.turn, .bool b.nd.mir, .int .i64 b.nd.state, .int .i64 b.nd.mn, .int .i64 b.nd.mx, .int .i64 b.x.n, .int .i64 b.x.d, .int .i64 b.y.n, .int .i64 b.y.d, .int .i64 b.w.n, .int .i64 b.w.d, .int .i64 b.h.n, .int .i64 b.h.d] 54) := ⟨_, rfl⟩
  have hb1 : Below w.heap.size w w1 := by rw [hw1]; exact (Below.refl _ _).alloc (Nat.le_refl _) _
  have h0 : BxB w1 w.heap.size b := by rw [hw1]; exact nw_blk rfl
  have HV := hid fun (f : Fr) (W : World) => validR_any f W
  have HVX := hid (HV.out b.x); have HVY := hid (HV.out b.y); have HVW := hid (HV.out b.w); have HVH := hid (HV.out b.h); have HVE := hid (HV.out (b.x.add b.w)); have HVF := hid (HV.out (b.y.add b.h))
  have HAE := hid fun (h1 : okB b.x = true) (h2 : okB b.w = true) (W : World) => addW_any b.x b.w ((okB_iff.1 h1).num.prd (okB_iff.1 h2).num (by decide) (by decide) (by decide)) W
  have HAF := hid fun (h1 : okB b.y = true) (h2 : okB b.h = true) (W : World) => addW_any b.y b.h ((okB_iff.1 h1).num.prd (okB_iff.1 h2).num (by decide) (by decide) (by decide)) W
  have HPT := hid fun h : b.placed => plB_t h
  have HPF := hid fun h : ¬ b.placed => plB_f h
  have hxe : b.xe = b.x.add b.w := rfl
  have hye : b.ye = b.y.add b.h := rfl
  generalize hfe : b.x.add b.w = fe at *
  generalize hff : b.y.add b.h = ff at *
  clear hfe hff
  have HW1 := hid hw1; have HB1 := hid hb1; have HV0 := hid h0
  clear hw1 hb1 h0 HV
  obtain ⟨B0, hB0⟩ : ∃ B0, B0 = w.heap.size := ⟨_, rfl⟩
  have HB0 := hid hB0
  rw [← hB0] at HV0
  clear hB0
  cases e0 : okB b.x with
  | false =>
    have HX := hid (HPF.out fun h => (by rw [okB_t h.x] at e0; cases e0))
    clear hxe hye HPT HPF
    go_enter Try.func22, Try.ntmps22
    go_upto_region 1 with (fail)
    rw [← HW1.out, ← HB0.out]
    have HV3 := HV0
    have HBN := hid (Below.refl w1.heap.size w1)
    have hc := HV3.out.cells
    have i7 := hc.k7; have i8 := hc.k8; have i9 := hc.k9; have i10 := hc.k10; have i11 := hc.k11; have i12 := hc.k12; have i13 := hc.k13; have i14 := hc.k14
    clear hc
    go_wp2_with (first | (go_at_call 55; with_reducible refine (HVX.out _).mono ?_; rintro e wz ⟨rfl, hbz⟩; have HBN := hid (bnext0 HBN.out hbz); clear hbz i7 i8 i9 i10 i11 i12 i13 i14; have hc := (HV3.out.below HBN.out).cells; have i7 := hc.k7; have i8 := hc.k8; have i9 := hc.k9; have i10 := hc.k10; have i11 := hc.k11; have i12 := hc.k12; have i13 := hc.k13; have i14 := hc.k14; clear hc))
    go_ret
    exact ⟨by rw [HX.out]; rfl, HB1.out.trans (HBN.out.mono HB1.out.size)⟩
  | true =>
    cases e1 : okB b.y with
    | false =>
      have HX := hid (HPF.out fun h => (by rw [okB_t h.y] at e1; cases e1))
      clear hxe hye HPT HPF
      go_enter Try.func22, Try.ntmps22
      go_upto_region 1 with (fail)
      rw [← HW1.out, ← HB0.out]
      have HV3 := HV0
      have HBN := hid (Below.refl w1.heap.size w1)
      have hc := HV3.out.cells
      have i7 := hc.k7; have i8 := hc.k8; have i9 := hc.k9; have i10 := hc.k10; have i11 := hc.k11; have i12 := hc.k12; have i13 := hc.k13; have i14 := hc.k14
      clear hc
      go_wp2_with (first | (go_at_call 55; with_reducible refine (HVX.out _).mono ?_; rintro e wz ⟨rfl, hbz⟩; have HBN := hid (bnext0 HBN.out hbz); clear hbz i7 i8 i9 i10 i11 i12 i13 i14; have hc := (HV3.out.below HBN.out).cells; have i7 := hc.k7; have i8 := hc.k8; have i9 := hc.k9; have i10 := hc.k10; have i11 := hc.k11; have i12 := hc.k12; have i13 := hc.k13; have i14 := hc.k14; clear hc) | (go_at_call 55; with_reducible refine (HVY.out _).mono ?_; rintro e wz ⟨rfl, hbz⟩; have HBN := hid (bnext0 HBN.out hbz); clear hbz i7 i8 i9 i10 i11 i12 i13 i14; have hc := (HV3.out.below HBN.out).cells; have i7 := hc.k7; have i8 := hc.k8; have i9 := hc.k9; have i10 := hc.k10; have i11 := hc.k11; have i12 := hc.k12; have i13 := hc.k13; have i14 := hc.k14; clear hc))
      go_ret
      exact ⟨by rw [HX.out]; rfl, HB1.out.trans (HBN.out.mono HB1.out.size)⟩
    | true =>
      cases e2 : okB b.w with
      | false =>
        have HX := hid (HPF.out fun h => (by rw [okB_t h.w] at e2; cases e2))
        clear hxe hye HPT HPF
        go_enter Try.func22, Try.ntmps22
        go_upto_region 1 with (fail)
        rw [← HW1.out, ← HB0.out]
        have HV3 := HV0
        have HBN := hid (Below.refl w1.heap.size w1)
        have hc := HV3.out.cells
        have i7 := hc.k7; have i8 := hc.k8; have i9 := hc.k9; have i10 := hc.k10; have i11 := hc.k11; have i12 := hc.k12; have i13 := hc.k13; have i14 := hc.k14
        clear hc
        go_wp2_with (first | (go_at_call 55; with_reducible refine (HVX.out _).mono ?_; rintro e wz ⟨rfl, hbz⟩; have HBN := hid (bnext0 HBN.out hbz); clear hbz i7 i8 i9 i10 i11 i12 i13 i14; have hc := (HV3.out.below HBN.out).cells; have i7 := hc.k7; have i8 := hc.k8; have i9 := hc.k9; have i10 := hc.k10; have i11 := hc.k11; have i12 := hc.k12; have i13 := hc.k13; have i14 := hc.k14; clear hc) | (go_at_call 55; with_reducible refine (HVY.out _).mono ?_; rintro e wz ⟨rfl, hbz⟩; have HBN := hid (bnext0 HBN.out hbz); clear hbz i7 i8 i9 i10 i11 i12 i13 i14; have hc := (HV3.out.below HBN.out).cells; have i7 := hc.k7; have i8 := hc.k8; have i9 := hc.k9; have i10 := hc.k10; have i11 := hc.k11; have i12 := hc.k12; have i13 := hc.k13; have i14 := hc.k14; clear hc) | (go_at_call 55; with_reducible refine (HVW.out _).mono ?_; rintro e wz ⟨rfl, hbz⟩; have HBN := hid (bnext0 HBN.out hbz); clear hbz i7 i8 i9 i10 i11 i12 i13 i14; have hc := (HV3.out.below HBN.out).cells; have i7 := hc.k7; have i8 := hc.k8; have i9 := hc.k9; have i10 := hc.k10; have i11 := hc.k11; have i12 := hc.k12; have i13 := hc.k13; have i14 := hc.k14; clear hc))
        go_ret
        exact ⟨by rw [HX.out]; rfl, HB1.out.trans (HBN.out.mono HB1.out.size)⟩
      | true =>
        cases e3 : okB b.h with
        | false =>
          have HX := hid (HPF.out fun h => (by rw [okB_t h.h] at e3; cases e3))
          clear hxe hye HPT HPF
          go_enter Try.func22, Try.ntmps22
          go_upto_region 1 with (fail)
          rw [← HW1.out, ← HB0.out]
          have HV3 := HV0
          have HBN := hid (Below.refl w1.heap.size w1)
          have hc := HV3.out.cells
          have i7 := hc.k7; have i8 := hc.k8; have i9 := hc.k9; have i10 := hc.k10; have i11 := hc.k11; have i12 := hc.k12; have i13 := hc.k13; have i14 := hc.k14
          clear hc
          go_wp2_with (first | (go_at_call 55; with_reducible refine (HVX.out _).mono ?_; rintro e wz ⟨rfl, hbz⟩; have HBN := hid (bnext0 HBN.out hbz); clear hbz i7 i8 i9 i10 i11 i12 i13 i14; have hc := (HV3.out.below HBN.out).cells; have i7 := hc.k7; have i8 := hc.k8; have i9 := hc.k9; have i10 := hc.k10; have i11 := hc.k11; have i12 := hc.k12; have i13 := hc.k13; have i14 := hc.k14; clear hc) | (go_at_call 55; with_reducible refine (HVY.out _).mono ?_; rintro e wz ⟨rfl, hbz⟩; have HBN := hid (bnext0 HBN.out hbz); clear hbz i7 i8 i9 i10 i11 i12 i13 i14; have hc := (HV3.out.below HBN.out).cells; have i7 := hc.k7; have i8 := hc.k8; have i9 := hc.k9; have i10 := hc.k10; have i11 := hc.k11; have i12 := hc.k12; have i13 := hc.k13; have i14 := hc.k14; clear hc) | (go_at_call 55; with_reducible refine (HVW.out _).mono ?_; rintro e wz ⟨rfl, hbz⟩; have HBN := hid (bnext0 HBN.out hbz); clear hbz i7 i8 i9 i10 i11 i12 i13 i14; have hc := (HV3.out.below HBN.out).cells; have i7 := hc.k7; have i8 := hc.k8; have i9 := hc.k9; have i10 := hc.k10; have i11 := hc.k11; have i12 := hc.k12; have i13 := hc.k13; have i14 := hc.k14; clear hc) | (go_at_call 55; with_reducible refine (HVH.out _).mono ?_; rintro e wz ⟨rfl, hbz⟩; have HBN := hid (bnext0 HBN.out hbz); clear hbz i7 i8 i9 i10 i11 i12 i13 i14; have hc := (HV3.out.below HBN.out).cells; have i7 := hc.k7; have i8 := hc.k8; have i9 := hc.k9; have i10 := hc.k10; have i11 := hc.k11; have i12 := hc.k12; have i13 := hc.k13; have i14 := hc.k14; clear hc))
          go_ret
          exact ⟨by rw [HX.out]; rfl, HB1.out.trans (HBN.out.mono HB1.out.size)⟩
        | true =>
          replace HAE := hid (HAE.out e0 e2)
          replace HAF := hid (HAF.out e1 e3)
          by_cases n0 : 0 < b.w.n
          rotate_left
          · have HX := hid (HPF.out fun h => n0 h.w0)
            have d0 : decide (0 < b.w.n) = false := decide_eq_false n0
            clear hxe hye HPT HPF n0
            go_enter Try.func22, Try.ntmps22
            go_upto_region 1 with (fail)
            rw [← HW1.out, ← HB0.out]
            have HV3 := HV0
            have HBN := hid (Below.refl w1.heap.size w1)
            have hc := HV3.out.cells
            have i7 := hc.k7; have i8 := hc.k8; have i9 := hc.k9; have i10 := hc.k10; have i11 := hc.k11; have i12 := hc.k12; have i13 := hc.k13; have i14 := hc.k14
            clear hc
            go_wp2_with (first | (go_at_call 55; with_reducible refine (HVX.out _).mono ?_; rintro e wz ⟨rfl, hbz⟩; have HBN := hid (bnext0 HBN.out hbz); clear hbz i7 i8 i9 i10 i11 i12 i13 i14; have hc := (HV3.out.below HBN.out).cells; have i7 := hc.k7; have i8 := hc.k8; have i9 := hc.k9; have i10 := hc.k10; have i11 := hc.k11; have i12 := hc.k12; have i13 := hc.k13; have i14 := hc.k14; clear hc) | (go_at_call 55; with_reducible refine (HVY.out _).mono ?_; rintro e wz ⟨rfl, hbz⟩; have HBN := hid (bnext0 HBN.out hbz); clear hbz i7 i8 i9 i10 i11 i12 i13 i14; have hc := (HV3.out.below HBN.out).cells; have i7 := hc.k7; have i8 := hc.k8; have i9 := hc.k9; have i10 := hc.k10; have i11 := hc.k11; have i12 := hc.k12; have i13 := hc.k13; have i14 := hc.k14; clear hc) | (go_at_call 55; with_reducible refine (HVW.out _).mono ?_; rintro e wz ⟨rfl, hbz⟩; have HBN := hid (bnext0 HBN.out hbz); clear hbz i7 i8 i9 i10 i11 i12 i13 i14; have hc := (HV3.out.below HBN.out).cells; have i7 := hc.k7; have i8 := hc.k8; have i9 := hc.k9; have i10 := hc.k10; have i11 := hc.k11; have i12 := hc.k12; have i13 := hc.k13; have i14 := hc.k14; clear hc) | (go_at_call 55; with_reducible refine (HVH.out _).mono ?_; rintro e wz ⟨rfl, hbz⟩; have HBN := hid (bnext0 HBN.out hbz); clear hbz i7 i8 i9 i10 i11 i12 i13 i14; have hc := (HV3.out.below HBN.out).cells; have i7 := hc.k7; have i8 := hc.k8; have i9 := hc.k9; have i10 := hc.k10; have i11 := hc.k11; have i12 := hc.k12; have i13 := hc.k13; have i14 := hc.k14; clear hc))
            go_ret
            exact ⟨by rw [HX.out]; rfl, HB1.out.trans (HBN.out.mono HB1.out.size)⟩
          have d0 : decide (0 < b.w.n) = true := decide_eq_true n0
          by_cases n1 : 0 < b.h.n
          rotate_left
          · have HX := hid (HPF.out fun h => n1 h.h0)
            have d1 : decide (0 < b.h.n) = false := decide_eq_false n1
            clear hxe hye HPT HPF n1 n0
            go_enter Try.func22, Try.ntmps22
            go_upto_region 1 with (fail)
            rw [← HW1.out, ← HB0.out]
            have HV3 := HV0
            have HBN := hid (Below.refl w1.heap.size w1)
            have hc := HV3.out.cells
            have i7 := hc.k7; have i8 := hc.k8; have i9 := hc.k9; have i10 := hc.k10; have i11 := hc.k11; have i12 := hc.k12; have i13 := hc.k13; have i14 := hc.k14
            clear hc
            go_wp2_with (first | (go_at_call 55; with_reducible refine (HVX.out _).mono ?_; rintro e wz ⟨rfl, hbz⟩; have HBN := hid (bnext0 HBN.out hbz); clear hbz i7 i8 i9 i10 i11 i12 i13 i14; have hc := (HV3.out.below HBN.out).cells; have i7 := hc.k7; have i8 := hc.k8; have i9 := hc.k9; have i10 := hc.k10; have i11 := hc.k11; have i12 := hc.k12; have i13 := hc.k13; have i14 := hc.k14; clear hc) | (go_at_call 55; with_reducible refine (HVY.out _).mono ?_; rintro e wz ⟨rfl, hbz⟩; have HBN := hid (bnext0 HBN.out hbz); clear hbz i7 i8 i9 i10 i11 i12 i13 i14; have hc := (HV3.out.below HBN.out).cells; have i7 := hc.k7; have i8 := hc.k8; have i9 := hc.k9; have i10 := hc.k10; have i11 := hc.k11; have i12 := hc.k12; have i13 := hc.k13; have i14 := hc.k14; clear hc) | (go_at_call 55; with_reducible refine (HVW.out _).mono ?_; rintro e wz ⟨rfl, hbz⟩; have HBN := hid (bnext0 HBN.out hbz); clear hbz i7 i8 i9 i10 i11 i12 i13 i14; have hc := (HV3.out.below HBN.out).cells; have i7 := hc.k7; have i8 := hc.k8; have i9 := hc.k9; have i10 := hc.k10; have i11 := hc.k11; have i12 := hc.k12; have i13 := hc.k13; have i14 := hc.k14; clear hc) | (go_at_call 55; with_reducible refine (HVH.out _).mono ?_; rintro e wz ⟨rfl, hbz⟩; have HBN := hid (bnext0 HBN.out hbz); clear hbz i7 i8 i9 i10 i11 i12 i13 i14; have hc := (HV3.out.below HBN.out).cells; have i7 := hc.k7; have i8 := hc.k8; have i9 := hc.k9; have i10 := hc.k10; have i11 := hc.k11; have i12 := hc.k12; have i13 := hc.k13; have i14 := hc.k14; clear hc))
            go_ret
            exact ⟨by rw [HX.out]; rfl, HB1.out.trans (HBN.out.mono HB1.out.size)⟩
          have d1 : decide (0 < b.h.n) = true := decide_eq_true n1
          cases e4 : okB fe with
          | false =>
            have HX := hid (HPF.out fun h => (by have h2 := h.xe; rw [hxe] at h2; rw [okB_t h2] at e4; cases e4))
            clear hxe hye HPT HPF n0 n1
            go_enter Try.func22, Try.ntmps22
            go_upto_region 1 with (fail)
            rw [← HW1.out, ← HB0.out]
            have HV3 := HV0
            have HBN := hid (Below.refl w1.heap.size w1)
            have hc := HV3.out.cells
            have i7 := hc.k7; have i8 := hc.k8; have i9 := hc.k9; have i10 := hc.k10; have i11 := hc.k11; have i12 := hc.k12; have i13 := hc.k13; have i14 := hc.k14
            clear hc
            go_wp2_with (first | (go_at_call 55; with_reducible refine (HVX.out _).mono ?_; rintro e wz ⟨rfl, hbz⟩; have HBN := hid (bnext0 HBN.out hbz); clear hbz i7 i8 i9 i10 i11 i12 i13 i14; have hc := (HV3.out.below HBN.out).cells; have i7 := hc.k7; have i8 := hc.k8; have i9 := hc.k9; have i10 := hc.k10; have i11 := hc.k11; have i12 := hc.k12; have i13 := hc.k13; have i14 := hc.k14; clear hc) | (go_at_call 55; with_reducible refine (HVY.out _).mono ?_; rintro e wz ⟨rfl, hbz⟩; have HBN := hid (bnext0 HBN.out hbz); clear hbz i7 i8 i9 i10 i11 i12 i13 i14; have hc := (HV3.out.below HBN.out).cells; have i7 := hc.k7; have i8 := hc.k8; have i9 := hc.k9; have i10 := hc.k10; have i11 := hc.k11; have i12 := hc.k12; have i13 := hc.k13; have i14 := hc.k14; clear hc) | (go_at_call 55; with_reducible refine (HVW.out _).mono ?_; rintro e wz ⟨rfl, hbz⟩; have HBN := hid (bnext0 HBN.out hbz); clear hbz i7 i8 i9 i10 i11 i12 i13 i14; have hc := (HV3.out.below HBN.out).cells; have i7 := hc.k7; have i8 := hc.k8; have i9 := hc.k9; have i10 := hc.k10; have i11 := hc.k11; have i12 := hc.k12; have i13 := hc.k13; have i14 := hc.k14; clear hc) | (go_at_call 55; with_reducible refine (HVH.out _).mono ?_; rintro e wz ⟨rfl, hbz⟩; have HBN := hid (bnext0 HBN.out hbz); clear hbz i7 i8 i9 i10 i11 i12 i13 i14; have hc := (HV3.out.below HBN.out).cells; have i7 := hc.k7; have i8 := hc.k8; have i9 := hc.k9; have i10 := hc.k10; have i11 := hc.k11; have i12 := hc.k12; have i13 := hc.k13; have i14 := hc.k14; clear hc) | (go_at_call 56; with_reducible refine (HAE.out _).mono ?_; rintro e wz ⟨rfl, hbz⟩; have HBN := hid (bnext0 HBN.out hbz); clear hbz i7 i8 i9 i10 i11 i12 i13 i14; have hc := (HV3.out.below HBN.out).cells; have i7 := hc.k7; have i8 := hc.k8; have i9 := hc.k9; have i10 := hc.k10; have i11 := hc.k11; have i12 := hc.k12; have i13 := hc.k13; have i14 := hc.k14; clear hc) | (go_at_call 55; with_reducible refine (HVE.out _).mono ?_; rintro e wz ⟨rfl, hbz⟩; have HBN := hid (bnext0 HBN.out hbz); clear hbz i7 i8 i9 i10 i11 i12 i13 i14; have hc := (HV3.out.below HBN.out).cells; have i7 := hc.k7; have i8 := hc.k8; have i9 := hc.k9; have i10 := hc.k10; have i11 := hc.k11; have i12 := hc.k12; have i13 := hc.k13; have i14 := hc.k14; clear hc))
            go_ret
            exact ⟨by rw [HX.out]; rfl, HB1.out.trans (HBN.out.mono HB1.out.size)⟩
          | true =>
            cases e5 : okB ff with
            | false =>
              have HX := hid (HPF.out fun h => (by have h2 := h.ye; rw [hye] at h2; rw [okB_t h2] at e5; cases e5))
              clear hxe hye HPT HPF n0 n1
              go_enter Try.func22, Try.ntmps22
              go_upto_region 1 with (fail)
              rw [← HW1.out, ← HB0.out]
              have HV3 := HV0
              have HBN := hid (Below.refl w1.heap.size w1)
              have hc := HV3.out.cells
              have i7 := hc.k7; have i8 := hc.k8; have i9 := hc.k9; have i10 := hc.k10; have i11 := hc.k11; have i12 := hc.k12; have i13 := hc.k13; have i14 := hc.k14
              clear hc
              go_wp2_with (first | (go_at_call 55; with_reducible refine (HVX.out _).mono ?_; rintro e wz ⟨rfl, hbz⟩; have HBN := hid (bnext0 HBN.out hbz); clear hbz i7 i8 i9 i10 i11 i12 i13 i14; have hc := (HV3.out.below HBN.out).cells; have i7 := hc.k7; have i8 := hc.k8; have i9 := hc.k9; have i10 := hc.k10; have i11 := hc.k11; have i12 := hc.k12; have i13 := hc.k13; have i14 := hc.k14; clear hc) | (go_at_call 55; with_reducible refine (HVY.out _).mono ?_; rintro e wz ⟨rfl, hbz⟩; have HBN := hid (bnext0 HBN.out hbz); clear hbz i7 i8 i9 i10 i11 i12 i13 i14; have hc := (HV3.out.below HBN.out).cells; have i7 := hc.k7; have i8 := hc.k8; have i9 := hc.k9; have i10 := hc.k10; have i11 := hc.k11; have i12 := hc.k12; have i13 := hc.k13; have i14 := hc.k14; clear hc) | (go_at_call 55; with_reducible refine (HVW.out _).mono ?_; rintro e wz ⟨rfl, hbz⟩; have HBN := hid (bnext0 HBN.out hbz); clear hbz i7 i8 i9 i10 i11 i12 i13 i14; have hc := (HV3.out.below HBN.out).cells; have i7 := hc.k7; have i8 := hc.k8; have i9 := hc.k9; have i10 := hc.k10; have i11 := hc.k11; have i12 := hc.k12; have i13 := hc.k13; have i14 := hc.k14; clear hc) | (go_at_call 55; with_reducible refine (HVH.out _).mono ?_; rintro e wz ⟨rfl, hbz⟩; have HBN := hid (bnext0 HBN.out hbz); clear hbz i7 i8 i9 i10 i11 i12 i13 i14; have hc := (HV3.out.below HBN.out).cells; have i7 := hc.k7; have i8 := hc.k8; have i9 := hc.k9; have i10 := hc.k10; have i11 := hc.k11; have i12 := hc.k12; have i13 := hc.k13; have i14 := hc.k14; clear hc) | (go_at_call 56; with_reducible refine (HAE.out _).mono ?_; rintro e wz ⟨rfl, hbz⟩; have HBN := hid (bnext0 HBN.out hbz); clear hbz i7 i8 i9 i10 i11 i12 i13 i14; have hc := (HV3.out.below HBN.out).cells; have i7 := hc.k7; have i8 := hc.k8; have i9 := hc.k9; have i10 := hc.k10; have i11 := hc.k11; have i12 := hc.k12; have i13 := hc.k13; have i14 := hc.k14; clear hc) | (go_at_call 55; with_reducible refine (HVE.out _).mono ?_; rintro e wz ⟨rfl, hbz⟩; have HBN := hid (bnext0 HBN.out hbz); clear hbz i7 i8 i9 i10 i11 i12 i13 i14; have hc := (HV3.out.below HBN.out).cells; have i7 := hc.k7; have i8 := hc.k8; have i9 := hc.k9; have i10 := hc.k10; have i11 := hc.k11; have i12 := hc.k12; have i13 := hc.k13; have i14 := hc.k14; clear hc) | (go_at_call 56; with_reducible refine (HAF.out _).mono ?_; rintro e wz ⟨rfl, hbz⟩; have HBN := hid (bnext0 HBN.out hbz); clear hbz i7 i8 i9 i10 i11 i12 i13 i14; have hc := (HV3.out.below HBN.out).cells; have i7 := hc.k7; have i8 := hc.k8; have i9 := hc.k9; have i10 := hc.k10; have i11 := hc.k11; have i12 := hc.k12; have i13 := hc.k13; have i14 := hc.k14; clear hc) | (go_at_call 55; with_reducible refine (HVF.out _).mono ?_; rintro e wz ⟨rfl, hbz⟩; have HBN := hid (bnext0 HBN.out hbz); clear hbz i7 i8 i9 i10 i11 i12 i13 i14; have hc := (HV3.out.below HBN.out).cells; have i7 := hc.k7; have i8 := hc.k8; have i9 := hc.k9; have i10 := hc.k10; have i11 := hc.k11; have i12 := hc.k12; have i13 := hc.k13; have i14 := hc.k14; clear hc))
              go_ret
              exact ⟨by rw [HX.out]; rfl, HB1.out.trans (HBN.out.mono HB1.out.size)⟩
            | true =>
              have HX := hid (HPT.out ⟨okB_iff.1 e0, okB_iff.1 e1, okB_iff.1 e2, okB_iff.1 e3, n0, n1, by rw [hxe]; exact okB_iff.1 e4, by rw [hye]; exact okB_iff.1 e5⟩)
              clear hxe hye HPT HPF n0 n1
              go_enter Try.func22, Try.ntmps22
              go_upto_region 1 with (fail)
              rw [← HW1.out, ← HB0.out]
              have HV3 := HV0
              have HBN := hid (Below.refl w1.heap.size w1)
              have hc := HV3.out.cells
              have i7 := hc.k7; have i8 := hc.k8; have i9 := hc.k9; have i10 := hc.k10; have i11 := hc.k11; have i12 := hc.k12; have i13 := hc.k13; have i14 := hc.k14
              clear hc
              go_wp2_with (first | (go_at_call 55; with_reducible refine (HVX.out _).mono ?_; rintro e wz ⟨rfl, hbz⟩; have HBN := hid (bnext0 HBN.out hbz); clear hbz i7 i8 i9 i10 i11 i12 i13 i14; have hc := (HV3.out.below HBN.out).cells; have i7 := hc.k7; have i8 := hc.k8; have i9 := hc.k9; have i10 := hc.k10; have i11 := hc.k11; have i12 := hc.k12; have i13 := hc.k13; have i14 := hc.k14; clear hc) | (go_at_call 55; with_reducible refine (HVY.out _).mono ?_; rintro e wz ⟨rfl, hbz⟩; have HBN := hid (bnext0 HBN.out hbz); clear hbz i7 i8 i9 i10 i11 i12 i13 i14; have hc := (HV3.out.below HBN.out).cells; have i7 := hc.k7; have i8 := hc.k8; have i9 := hc.k9; have i10 := hc.k10; have i11 := hc.k11; have i12 := hc.k12; have i13 := hc.k13; have i14 := hc.k14; clear hc) | (go_at_call 55; with_reducible refine (HVW.out _).mono ?_; rintro e wz ⟨rfl, hbz⟩; have HBN := hid (bnext0 HBN.out hbz); clear hbz i7 i8 i9 i10 i11 i12 i13 i14; have hc := (HV3.out.below HBN.out).cells; have i7 := hc.k7; have i8 := hc.k8; have i9 := hc.k9; have i10 := hc.k10; have i11 := hc.k11; have i12 := hc.k12; have i13 := hc.k13; have i14 := hc.k14; clear hc) | (go_at_call 55; with_reducible refine (HVH.out _).mono ?_; rintro e wz ⟨rfl, hbz⟩; have HBN := hid (bnext0 HBN.out hbz); clear hbz i7 i8 i9 i10 i11 i12 i13 i14; have hc := (HV3.out.below HBN.out).cells; have i7 := hc.k7; have i8 := hc.k8; have i9 := hc.k9; have i10 := hc.k10; have i11 := hc.k11; have i12 := hc.k12; have i13 := hc.k13; have i14 := hc.k14; clear hc) | (go_at_call 56; with_reducible refine (HAE.out _).mono ?_; rintro e wz ⟨rfl, hbz⟩; have HBN := hid (bnext0 HBN.out hbz); clear hbz i7 i8 i9 i10 i11 i12 i13 i14; have hc := (HV3.out.below HBN.out).cells; have i7 := hc.k7; have i8 := hc.k8; have i9 := hc.k9; have i10 := hc.k10; have i11 := hc.k11; have i12 := hc.k12; have i13 := hc.k13; have i14 := hc.k14; clear hc) | (go_at_call 55; with_reducible refine (HVE.out _).mono ?_; rintro e wz ⟨rfl, hbz⟩; have HBN := hid (bnext0 HBN.out hbz); clear hbz i7 i8 i9 i10 i11 i12 i13 i14; have hc := (HV3.out.below HBN.out).cells; have i7 := hc.k7; have i8 := hc.k8; have i9 := hc.k9; have i10 := hc.k10; have i11 := hc.k11; have i12 := hc.k12; have i13 := hc.k13; have i14 := hc.k14; clear hc) | (go_at_call 56; with_reducible refine (HAF.out _).mono ?_; rintro e wz ⟨rfl, hbz⟩; have HBN := hid (bnext0 HBN.out hbz); clear hbz i7 i8 i9 i10 i11 i12 i13 i14; have hc := (HV3.out.below HBN.out).cells; have i7 := hc.k7; have i8 := hc.k8; have i9 := hc.k9; have i10 := hc.k10; have i11 := hc.k11; have i12 := hc.k12; have i13 := hc.k13; have i14 := hc.k14; clear hc) | (go_at_call 55; with_reducible refine (HVF.out _).mono ?_; rintro e wz ⟨rfl, hbz⟩; have HBN := hid (bnext0 HBN.out hbz); clear hbz i7 i8 i9 i10 i11 i12 i13 i14; have hc := (HV3.out.below HBN.out).cells; have i7 := hc.k7; have i8 := hc.k8; have i9 := hc.k9; have i10 := hc.k10; have i11 := hc.k11; have i12 := hc.k12; have i13 := hc.k13; have i14 := hc.k14; clear hc))
              go_ret
              exact ⟨by rw [HX.out]; rfl, HB1.out.trans (HBN.out.mono HB1.out.size)⟩
end Go.Proofs.Ytfkcpcdndleboaa

/- WALK: the error of boxes, on both sides (printed by gen_checkw.py). -/
namespace Go.Proofs.Ytfkcpcdndleboaa
open Go.RowKit
/-- Boxes that are read. -/
def Bxs (w : World) (B : Nat) (A : Option Addr) (L : List Bxv) : Prop := Reads w B 15 A L.length (flatB L)
theorem Bxs.below {w w' : World} {B : Nat} {A : Option Addr} {L : List Bxv} (h : Bxs w B A L) (hb : Below B w w') : Bxs w' B A L := Reads.below h hb
theorem Bxs.more {w : World} {B B' : Nat} {A : Option Addr} {L : List Bxv} (h : Bxs w B A L) (hb : B ≤ B') : Bxs w B' A L := Reads.more h hb
theorem bxC_cells (v : Bxv) : bxC v = [.int .i64 v.nd.kind, .int .i64 v.nd.sign, .int .i64 v.nd.turn, .bool v.nd.mir, .int .i64 v.nd.state, .int .i64 v.nd.mn, .int .i64 v.nd.mx, .int .i64 v.x.n, .int .i64 v.x.d, .int .i64 v.y.n, .int .i64 v.y.d, .int .i64 v.w.n, .int .i64 v.w.d, .int .i64 v.h.n, .int .i64 v.h.d] := rfl
theorem Bxs.at {w : World} {B : Nat} {A : Option Addr} {L : List Bxv} (h : Bxs w B A L) (hl : 0 < L.length) : ∃ b o, A = some ⟨b, o, none⟩ ∧ b < B ∧ ∀ j (hj : j < L.length), w.rangeAt b (o + j * 15) [.int .i64 L[j].nd.kind, .int .i64 L[j].nd.sign, .int .i64 L[j].nd.turn, .bool L[j].nd.mir, .int .i64 L[j].nd.state, .int .i64 L[j].nd.mn, .int .i64 L[j].nd.mx, .int .i64 L[j].x.n, .int .i64 L[j].x.d, .int .i64 L[j].y.n, .int .i64 L[j].y.d, .int .i64 L[j].w.n, .int .i64 L[j].w.d, .int .i64 L[j].h.n, .int .i64 L[j].h.d] := by
  obtain ⟨b, o, rfl, hb, hc⟩ := Reads.at0 h hl (by rw [flatB_len]; omega)
  refine ⟨b, o, rfl, hb, fun j hj i u hu => ?_⟩
  have hi : i < 15 := (List.getElem?_eq_some_iff.1 hu).1
  have h1 := hc (j * 15 + i) u ((flatB_get L j i hj hi).trans hu)
  rwa [Nat.add_assoc]
theorem range_below {w w' : World} {B b o : Nat} {cs : List Value} (h : w.rangeAt b o cs) (hb : Below B w w') (hB : b < B) : w'.rangeAt b o cs := fun j v hv => (hb.cell (p := ⟨b, o + j, none⟩) hB).trans (h j v hv)
theorem wp_load_bxat {ops : Array Oper} {rest : List Oper} {o : Oper} {a : Act} {W : World} {Q : Exit → Act → World → Prop} (hgd : o.guard = none) (x : Operand) (ho : o.op = .load 54 x) (b of : Nat) (v : Bxv) (hx : a.eval x = .pointer (some ⟨b, of, none⟩)) (hv : W.rangeAt b of [.int .i64 v.nd.kind, .int .i64 v.nd.sign, .int .i64 v.nd.turn, .bool v.nd.mir, .int .i64 v.nd.state, .int .i64 v.nd.mn, .int .i64 v.nd.mx, .int .i64 v.x.n, .int .i64 v.x.d, .int .i64 v.y.n, .int .i64 v.y.d, .int .i64 v.w.n, .int .i64 v.w.d, .int .i64 v.h.n, .int .i64 v.h.d])
    (h : wpList Try.prog ops Q rest (a.put o.dst (.agg #[.int .i64 v.nd.kind, .int .i64 v.nd.sign, .int .i64 v.nd.turn, .bool v.nd.mir, .int .i64 v.nd.state, .int .i64 v.nd.mn, .int .i64 v.nd.mx, .int .i64 v.x.n, .int .i64 v.x.d, .int .i64 v.y.n, .int .i64 v.y.d, .int .i64 v.w.n, .int .i64 v.w.d, .int .i64 v.h.n, .int .i64 v.h.d])) W) : wpList Try.prog ops Q (o :: rest) a W :=
  wpList_load_mid hgd 54 x ho b of hx _ _ hv Try.underBox (by kernel_rfl) (by kernel_rfl) h
/-- The error of boxes. -/
noncomputable def chB (L : List Bxv) : Int := if 200 < L.length then 2 else @ite _ (∀ b ∈ L, b.placed) (Classical.propDecidable _) 0 41
theorem chB_ok {L : List Bxv} (h1 : ¬ 200 < L.length) (h2 : ∀ b ∈ L, b.placed) : chB L = 0 := by unfold chB; rw [if_neg h1, if_pos h2]
theorem chB_bad {L : List Bxv} (h1 : ¬ 200 < L.length) (h2 : ¬ ∀ b ∈ L, b.placed) : chB L = 41 := by unfold chB; rw [if_neg h1, if_neg h2]
theorem chB_zero {L : List Bxv} (h : chB L = 0) : L.length ≤ 200 ∧ ∀ b ∈ L, b.placed := by
  by_cases h1 : 200 < L.length
  · unfold chB at h; rw [if_pos h1] at h; omega
  · by_cases h2 : ∀ b ∈ L, b.placed
    · exact ⟨by omega, h2⟩
    · rw [chB_bad h1 h2] at h; omega
set_option maxRecDepth 100000 in
set_option maxHeartbeats 2000000 in
theorem boxCheck_any (L : List Bxv) (A : Option Addr) (c : Nat) (hn : L.length ≤ 1000000) (w : World) (r : Bxs w w.heap.size A L) :
    Calls Try.prog 68 #[.slice A L.length c] w fun e w' => e = .returned (.int .i64 (chB L)) ∧ Below w.heap.size w w' := by
  have HPL := hid fun (b : Bxv) (W : World) => placed_any b W
  have HAT := hid fun (hl : 0 < L.length) => r.at hl
  have HBIG := hid (show 200 < L.length → chB L = 2 from fun h => if_pos h)
  have HOK := hid (show ¬ 200 < L.length → (∀ i (hi : i < L.length), (L[i]).placed) → chB L = 0 from fun h1 h2 => chB_ok h1 fun b hb => by obtain ⟨i, hi, rfl⟩ := List.getElem_of_mem hb; exact h2 i hi)
  have HBAD := hid (show ¬ 200 < L.length → ∀ i (hi : i < L.length), ¬ (L[i]).placed → chB L = 41 from fun h1 i hi h2 => chB_bad h1 fun h => h2 (h _ (List.getElem_mem hi)))
  obtain ⟨n, hnn⟩ : ∃ n, n = L.length := ⟨_, rfl⟩
  rw [← hnn] at hn HBIG ⊢
  have HN := hid hnn
  clear r hnn
  by_cases hg : 200 < n
  · have HX := hid (HBIG.out hg)
    have g0 : decide ((200 : Int) < (n : Int)) = true := decide_eq_true (by omega)
    clear hg
    go_enter Try.func68, Try.ntmps68
    go_wp2_with fail
    go_ret
    exact ⟨by rw [HX.out]; rfl, Below.refl _ _⟩
  · have g0 : decide ((200 : Int) < (n : Int)) = false := decide_eq_false (by omega)
    have HG := hid (show ¬ 200 < L.length by rw [← HN.out]; exact hg)
    have hn2 : n ≤ 200 := by omega
    clear hg
    go_enter Try.func68, Try.ntmps68
    go_wp2_with fail
    go_loopw [10] (fun iv wr => ∃ j : Nat, j ≤ n ∧ iv = .int .i64 j ∧ Hid (∀ i (hi : i < L.length), i < j → (L[i]).placed) ∧ Hid (Below w.heap.size w wr)) (fun iv _ => n - (intOf iv).toNat)
    case atStart => exact ⟨0, by omega, rfl, hid (fun i _ h => by omega), hid (Below.refl _ _)⟩
    case round =>
      obtain ⟨j, hj, rfl, hP, hB⟩ := hrel
      by_cases hjn : j < n
      · have hjl : j < L.length := by rw [← HN.out]; exact hjn
        obtain ⟨b, o, rfl, hbB, hc⟩ := HAT.out (by omega)
        have hrg := hid (range_below (hc j hjl) hB.out hbB)
        have q0 : (j : Int) < (n : Int) := by omega
        have HPJ := hid (HPL.out L[j])
        have HPN := hid (show (L[j]).placed → ∀ i (hi : i < L.length), i < j + 1 → (L[i]).placed from fun h i hi h2 => by
          rcases Nat.eq_or_lt_of_le (Nat.le_of_lt_succ h2) with rfl | h3
          · exact h
          · exact hP.out i hi h3)
        have HPB := hid (HBAD.out HG.out j hjl)
        clear hc hP
        have hpl := plB_iff (b := L[j])
        generalize L[j] = v at *
        cases hv : plB v with
        | true =>
          have HQ := hid (HPN.out (hpl.1 hv))
          clear hpl HPN HPB
          go_wp2_with (first | (refine wp_load_bxat rfl (.tmp 12) rfl b (o + j * 15) v rfl hrg.out ?_) | (refine wp_load_box rfl (.tmp 4) rfl wr.heap.size v rfl (nw_blk rfl) ?_) | (go_at_call 102; refine (HPJ.out _).mono ?_; rintro e w3 ⟨rfl, hb3⟩; have HB3 := hid (bnext0 hB.out (bnext0 ((Below.refl wr.heap.size wr).alloc (Nat.le_refl _) _) hb3)); clear hb3))
          go_roundw
          case rel => exact ⟨j + 1, by omega, by go_num, HQ, HB3⟩
          case measure => simp [intOf]; omega
        | false =>
          have HQ := hid (HPB.out fun h => (by rw [hpl.2 h] at hv; cases hv))
          clear hpl HPN HPB
          go_wp2_with (first | (refine wp_load_bxat rfl (.tmp 12) rfl b (o + j * 15) v rfl hrg.out ?_) | (refine wp_load_box rfl (.tmp 4) rfl wr.heap.size v rfl (nw_blk rfl) ?_) | (go_at_call 102; refine (HPJ.out _).mono ?_; rintro e w3 ⟨rfl, hb3⟩; have HB3 := hid (bnext0 hB.out (bnext0 ((Below.refl wr.heap.size wr).alloc (Nat.le_refl _) _) hb3)); clear hb3))
          go_ret
          exact ⟨by rw [HQ.out]; rfl, HB3.out⟩
      · obtain rfl : j = n := by omega
        have q0 : decide ((j : Int) < (j : Int)) = false := by simp
        have HX := hid (HOK.out HG.out fun i hi => hP.out i hi (by rw [HN.out]; exact hi))
        clear hP
        go_wp2_with fail
        go_ret
        exact ⟨by rw [HX.out]; rfl, hB.out⟩
set_option maxRecDepth 100000 in
set_option maxHeartbeats 2000000 in
theorem allPlaced_any (L : List Bxv) (A : Option Addr) (c : Nat) (hn : L.length ≤ 1000000) (w : World) (r : Bxs w w.heap.size A L) :
    Calls Try.prog 73 #[.slice A L.length c] w fun e w' => e = .returned (.int .i64 (chB L)) ∧ Below w.heap.size w w' := by
  have HPL := hid fun (b : Bxv) (W : World) => placedR_any b W
  have HAT := hid fun (hl : 0 < L.length) => r.at hl
  have HBIG := hid (show 200 < L.length → chB L = 2 from fun h => if_pos h)
  have HOK := hid (show ¬ 200 < L.length → (∀ i (hi : i < L.length), (L[i]).placed) → chB L = 0 from fun h1 h2 => chB_ok h1 fun b hb => by obtain ⟨i, hi, rfl⟩ := List.getElem_of_mem hb; exact h2 i hi)
  have HBAD := hid (show ¬ 200 < L.length → ∀ i (hi : i < L.length), ¬ (L[i]).placed → chB L = 41 from fun h1 i hi h2 => chB_bad h1 fun h => h2 (h _ (List.getElem_mem hi)))
  obtain ⟨n, hnn⟩ : ∃ n, n = L.length := ⟨_, rfl⟩
  rw [← hnn] at hn HBIG ⊢
  have HN := hid hnn
  clear r hnn
  by_cases hg : 200 < n
  · have HX := hid (HBIG.out hg)
    have g0 : decide ((200 : Int) < (n : Int)) = true := decide_eq_true (by omega)
    clear hg
    go_enter Try.func73, Try.ntmps73
    go_wp2_with fail
    go_ret
    exact ⟨by rw [HX.out]; rfl, Below.refl _ _⟩
  · have g0 : decide ((200 : Int) < (n : Int)) = false := decide_eq_false (by omega)
    have HG := hid (show ¬ 200 < L.length by rw [← HN.out]; exact hg)
    have hn2 : n ≤ 200 := by omega
    clear hg
    go_enter Try.func73, Try.ntmps73
    go_wp2_with fail
    go_loopw [3] (fun iv wr => ∃ j : Nat, j ≤ n ∧ iv = .int .i64 j ∧ Hid (∀ i (hi : i < L.length), i < j → (L[i]).placed) ∧ Hid (Below w.heap.size w wr)) (fun iv _ => n - (intOf iv).toNat)
    case atStart => exact ⟨0, by omega, rfl, hid (fun i _ h => by omega), hid (Below.refl _ _)⟩
    case round =>
      obtain ⟨j, hj, rfl, hP, hB⟩ := hrel
      by_cases hjn : j < n
      · have hjl : j < L.length := by rw [← HN.out]; exact hjn
        obtain ⟨b, o, rfl, hbB, hc⟩ := HAT.out (by omega)
        have hrg := hid (range_below (hc j hjl) hB.out hbB)
        have q0 : (j : Int) < (n : Int) := by omega
        have HPJ := hid (HPL.out L[j])
        have HPN := hid (show (L[j]).placed → ∀ i (hi : i < L.length), i < j + 1 → (L[i]).placed from fun h i hi h2 => by
          rcases Nat.eq_or_lt_of_le (Nat.le_of_lt_succ h2) with rfl | h3
          · exact h
          · exact hP.out i hi h3)
        have HPB := hid (HBAD.out HG.out j hjl)
        clear hc hP
        have hpl := plB_iff (b := L[j])
        generalize L[j] = v at *
        cases hv : plB v with
        | true =>
          have HQ := hid (HPN.out (hpl.1 hv))
          clear hpl HPN HPB
          go_wp2_with (first | (refine wp_load_bxat rfl (.tmp 15) rfl b (o + j * 15) v rfl hrg.out ?_) | (go_at_call 22; refine (HPJ.out _).mono ?_; rintro e w3 ⟨rfl, hb3⟩; have HB3 := hid (bnext0 hB.out hb3); clear hb3))
          go_roundw
          case rel => exact ⟨j + 1, by omega, by go_num, HQ, HB3⟩
          case measure => simp [intOf]; omega
        | false =>
          have HQ := hid (HPB.out fun h => (by rw [hpl.2 h] at hv; cases hv))
          clear hpl HPN HPB
          go_wp2_with (first | (refine wp_load_bxat rfl (.tmp 15) rfl b (o + j * 15) v rfl hrg.out ?_) | (go_at_call 22; refine (HPJ.out _).mono ?_; rintro e w3 ⟨rfl, hb3⟩; have HB3 := hid (bnext0 hB.out hb3); clear hb3))
          go_ret
          exact ⟨by rw [HQ.out]; rfl, HB3.out⟩
      · obtain rfl : j = n := by omega
        have q0 : decide ((j : Int) < (j : Int)) = false := by simp
        have HX := hid (HOK.out HG.out fun i hi => hP.out i hi (by rw [HN.out]; exact hi))
        clear hP
        go_wp2_with fail
        go_ret
        exact ⟨by rw [HX.out]; rfl, hB.out⟩
end Go.Proofs.Ytfkcpcdndleboaa

/- WALK: boxes that cross, on both sides (printed by gen_crossw.py). -/
namespace Go.Proofs.Ytfkcpcdndleboaa
open Go.RowKit
/-- Do two boxes cross? -/
def crB (a b : Bxv) : Bool := decide (a.x.lt b.xe) && decide (b.x.lt a.xe) && decide (a.y.lt b.ye) && decide (b.y.lt a.ye)
theorem crB_iff {a b : Bxv} : crB a b = true ↔ crossP a b := by
  unfold crB crossP
  simp [and_assoc]
set_option maxRecDepth 100000 in
set_option maxHeartbeats 4000000 in
theorem cross_any (a b : Bxv) (ha : a.placed) (hb : b.placed) (w : World) :
    Calls Try.prog 75 #[.agg #[.int .i64 a.nd.kind, .int .i64 a.nd.sign, .int .i64 a.nd.turn, .bool a.nd.mir, .int .i64 a.nd.state, .int .i64 a.nd.mn, .int .i64 a.nd.mx, .int .i64 a.x.n, .int .i64 a.x.d, .int .i64 a.y.n, .int .i64 a.y.d, .int .i64 a.w.n, .int .i64 a.w.d, .int .i64 a.h.n, .int .i64 a.h.d], .agg #[.int .i64 b.nd.kind, .int .i64 b.nd.sign, .int .i64 b.nd.turn, .bool b.nd.mir, .int .i64 b.nd.state, .int .i64 b.nd.mn, .int .i64 b.nd.mx, .int .i64 b.x.n, .int .i64 b.x.d, .int .i64 b.y.n, .int .i64 b.y.d, .int .i64 b.w.n, .int .i64 b.w.d, .int .i64 b.h.n, .int .i64 b.h.d]] w fun e w' => e = .returned (.bool (crB a b)) ∧ Below w.heap.size w w' := by
  obtain ⟨w1, hw1⟩ : ∃ w1, w1 = (w.alloc (.cells #[.int .i64 a.nd.kind, .int .i64 a.nd.sign, .int .i64 a.nd.turn, .bool a.nd.mir, .int .i64 a.nd.state, .int .i64 a.nd.mn, .int .i64 a.nd.mx, .int .i64 a.x.n, .int .i64 a.x.d, .int .i64 a.y.n, .int .i64 a.y.d, .int .i64 a.w.n, .int .i64 a.w.d, .int .i64 a.h.n, .int .i64 a.h.d] 54)).alloc (.cells #[.int .i64 b.nd.kind, .int .i64 b.nd.sign, .int .i64 b.nd.turn, .bool b.nd.mir, .int .i64 b.nd.state, .int .i64 b.nd.mn, .int .i64 b.nd.mx, .int .i64 b.x.n, .int .i64 b.x.d, .int .i64 b.y.n, .int .i64 b.y.d, .int .i64 b.w.n, .int .i64 b.w.d, .int .i64 b.h.n, .int .i64 b.h.d] 54) := ⟨_, rfl⟩
  have hb1 : Below w.heap.size w w1 := by rw [hw1]; exact ((Below.refl _ _).alloc (Nat.le_refl _) _).alloc (by simp) _
  have h0 : BxB w1 w.heap.size a := by rw [hw1]; exact old_blk (nw_blk rfl)
  have h1 : BxB w1 (w.heap.size + 1) b := by rw [hw1]; exact nw_blk (by simp)
  have HA1 := hid fun W : World => addV_any b.x b.w (hb.x.num.prd hb.w.num (by decide) (by decide) (by decide)) W
  have HA2 := hid fun W : World => addV_any a.x a.w (ha.x.num.prd ha.w.num (by decide) (by decide) (by decide)) W
  have HA3 := hid fun W : World => addV_any b.y b.h (hb.y.num.prd hb.h.num (by decide) (by decide) (by decide)) W
  have HA4 := hid fun W : World => addV_any a.y a.h (ha.y.num.prd ha.h.num (by decide) (by decide) (by decide)) W
  have HC1 := hid fun W : World => compareV_any a.x b.xe (ha.x.num.prd hb.xe.num (by decide) (by decide) (by decide)) W
  have HC2 := hid fun W : World => compareV_any b.x a.xe (hb.x.num.prd ha.xe.num (by decide) (by decide) (by decide)) W
  have HC3 := hid fun W : World => compareV_any a.y b.ye (ha.y.num.prd hb.ye.num (by decide) (by decide) (by decide)) W
  have HC4 := hid fun W : World => compareV_any b.y a.ye (hb.y.num.prd ha.ye.num (by decide) (by decide) (by decide)) W
  have e1 : b.x.add b.w = b.xe := rfl
  have e2 : a.x.add a.w = a.xe := rfl
  have e3 : b.y.add b.h = b.ye := rfl
  have e4 : a.y.add a.h = a.ye := rfl
  rw [e1] at HA1
  rw [e2] at HA2
  rw [e3] at HA3
  rw [e4] at HA4
  have hcr : crB a b = (decide (a.x.lt b.xe) && decide (b.x.lt a.xe) && decide (a.y.lt b.ye) && decide (b.y.lt a.ye)) := rfl
  have l1 : decide (cmpF a.x b.xe < 0) = decide (a.x.lt b.xe) := decide_eq_decide.2 cmp_lt
  have l2 : decide (cmpF b.x a.xe < 0) = decide (b.x.lt a.xe) := decide_eq_decide.2 cmp_lt
  have l3 : decide (cmpF a.y b.ye < 0) = decide (a.y.lt b.ye) := decide_eq_decide.2 cmp_lt
  have l4 : decide (cmpF b.y a.ye < 0) = decide (b.y.lt a.ye) := decide_eq_decide.2 cmp_lt
  generalize cmpF a.x b.xe = m1 at *
  generalize cmpF b.x a.xe = m2 at *
  generalize cmpF a.y b.ye = m3 at *
  generalize cmpF b.y a.ye = m4 at *
  generalize decide (a.x.lt b.xe) = d1 at *
  generalize decide (b.x.lt a.xe) = d2 at *
  generalize decide (a.y.lt b.ye) = d3 at *
  generalize decide (b.y.lt a.ye) = d4 at *
  generalize b.xe = f1 at *
  generalize a.xe = f2 at *
  generalize b.ye = f3 at *
  generalize a.ye = f4 at *
  have HCR := hid hcr
  have HW1 := hid hw1; have HB1 := hid hb1; have HVA := hid h0; have HVB := hid h1
  clear hw1 hb1 h0 h1 e1 e2 e3 e4 ha hb hcr
  obtain ⟨B0, hB0⟩ : ∃ B0, B0 = w.heap.size := ⟨_, rfl⟩
  obtain ⟨B1, hB1⟩ : ∃ B1, B1 = B0 + 1 := ⟨_, rfl⟩
  have HB0 := hid hB0; have HBB := hid hB1
  rw [← hB0] at HVA HVB
  rw [← hB1] at HVB
  clear hB0 hB1
  cases d1 with
  | false =>
    have hr : (crB a b = false) := by rw [HCR.out]; simp
    replace HCR := hid hr
    clear hr
    go_enter Try.func75, Try.ntmps75
    go_upto_region 1 with (fail)
    rw [← HW1.out, ← HB0.out, ← HBB.out]
    have cz := fun z : BW w1.heap.size w1 => (HVA.out.below z.ok).cells
    have cy := fun z : BW w1.heap.size w1 => (HVB.out.below z.ok).cells
    have i7 := fun z => (cz z).k7; have j7 := fun z => (cy z).k7; have i8 := fun z => (cz z).k8; have j8 := fun z => (cy z).k8; have i9 := fun z => (cz z).k9; have j9 := fun z => (cy z).k9; have i10 := fun z => (cz z).k10; have j10 := fun z => (cy z).k10; have i11 := fun z => (cz z).k11; have j11 := fun z => (cy z).k11; have i12 := fun z => (cz z).k12; have j12 := fun z => (cy z).k12; have i13 := fun z => (cz z).k13; have j13 := fun z => (cy z).k13; have i14 := fun z => (cz z).k14; have j14 := fun z => (cy z).k14
    clear cz cy
    have HZ1 := hid (below_class (wb := w1) (Nat.le_refl w1.heap.size) fun z => HA1.out z.val); have HY1 := hid (below_class (wb := w1) (Nat.le_refl w1.heap.size) fun z => HC1.out z.val)
    refine region_below (by kernel_rfl) (by kernel_rfl) (Below.refl w1.heap.size w1) ?_
    repeat (go_big_quiet_step (first | (go_at_call 69; with_reducible exact (HZ1.out _)) | (go_at_call 60; with_reducible exact (HY1.out _))))
    refine wpQuiet_nil ?_
    intro _ hw'
    obtain ⟨z, rfl⟩ := hw'
    have HZ := hid z.ok
    clear i7 j7 i8 j8 i9 j9 i10 j10 i11 j11 i12 j12 i13 j13 i14 j14
    go_wp2_with fail
    go_ret
    exact ⟨by rw [HCR.out]; rfl, HB1.out.trans (HZ.out.mono HB1.out.size)⟩
  | true =>
    cases d2 with
    | false =>
      have hr : (crB a b = false) := by rw [HCR.out]; simp
      replace HCR := hid hr
      clear hr
      go_enter Try.func75, Try.ntmps75
      go_upto_region 1 with (fail)
      rw [← HW1.out, ← HB0.out, ← HBB.out]
      have cz := fun z : BW w1.heap.size w1 => (HVA.out.below z.ok).cells
      have cy := fun z : BW w1.heap.size w1 => (HVB.out.below z.ok).cells
      have i7 := fun z => (cz z).k7; have j7 := fun z => (cy z).k7; have i8 := fun z => (cz z).k8; have j8 := fun z => (cy z).k8; have i9 := fun z => (cz z).k9; have j9 := fun z => (cy z).k9; have i10 := fun z => (cz z).k10; have j10 := fun z => (cy z).k10; have i11 := fun z => (cz z).k11; have j11 := fun z => (cy z).k11; have i12 := fun z => (cz z).k12; have j12 := fun z => (cy z).k12; have i13 := fun z => (cz z).k13; have j13 := fun z => (cy z).k13; have i14 := fun z => (cz z).k14; have j14 := fun z => (cy z).k14
      clear cz cy
      have HZ1 := hid (below_class (wb := w1) (Nat.le_refl w1.heap.size) fun z => HA1.out z.val); have HY1 := hid (below_class (wb := w1) (Nat.le_refl w1.heap.size) fun z => HC1.out z.val); have HZ2 := hid (below_class (wb := w1) (Nat.le_refl w1.heap.size) fun z => HA2.out z.val); have HY2 := hid (below_class (wb := w1) (Nat.le_refl w1.heap.size) fun z => HC2.out z.val)
      refine region_below (by kernel_rfl) (by kernel_rfl) (Below.refl w1.heap.size w1) ?_
      repeat (go_big_quiet_step (first | (go_at_call 69; with_reducible exact (HZ1.out _)) | (go_at_call 60; with_reducible exact (HY1.out _)) | (go_at_call 69; with_reducible exact (HZ2.out _)) | (go_at_call 60; with_reducible exact (HY2.out _))))
      refine wpQuiet_nil ?_
      intro _ hw'
      obtain ⟨z, rfl⟩ := hw'
      have HZ := hid z.ok
      clear i7 j7 i8 j8 i9 j9 i10 j10 i11 j11 i12 j12 i13 j13 i14 j14
      go_wp2_with fail
      go_ret
      exact ⟨by rw [HCR.out]; rfl, HB1.out.trans (HZ.out.mono HB1.out.size)⟩
    | true =>
      cases d3 with
      | false =>
        have hr : (crB a b = false) := by rw [HCR.out]; simp
        replace HCR := hid hr
        clear hr
        go_enter Try.func75, Try.ntmps75
        go_upto_region 1 with (fail)
        rw [← HW1.out, ← HB0.out, ← HBB.out]
        have cz := fun z : BW w1.heap.size w1 => (HVA.out.below z.ok).cells
        have cy := fun z : BW w1.heap.size w1 => (HVB.out.below z.ok).cells
        have i7 := fun z => (cz z).k7; have j7 := fun z => (cy z).k7; have i8 := fun z => (cz z).k8; have j8 := fun z => (cy z).k8; have i9 := fun z => (cz z).k9; have j9 := fun z => (cy z).k9; have i10 := fun z => (cz z).k10; have j10 := fun z => (cy z).k10; have i11 := fun z => (cz z).k11; have j11 := fun z => (cy z).k11; have i12 := fun z => (cz z).k12; have j12 := fun z => (cy z).k12; have i13 := fun z => (cz z).k13; have j13 := fun z => (cy z).k13; have i14 := fun z => (cz z).k14; have j14 := fun z => (cy z).k14
        clear cz cy
        have HZ1 := hid (below_class (wb := w1) (Nat.le_refl w1.heap.size) fun z => HA1.out z.val); have HY1 := hid (below_class (wb := w1) (Nat.le_refl w1.heap.size) fun z => HC1.out z.val); have HZ2 := hid (below_class (wb := w1) (Nat.le_refl w1.heap.size) fun z => HA2.out z.val); have HY2 := hid (below_class (wb := w1) (Nat.le_refl w1.heap.size) fun z => HC2.out z.val); have HZ3 := hid (below_class (wb := w1) (Nat.le_refl w1.heap.size) fun z => HA3.out z.val); have HY3 := hid (below_class (wb := w1) (Nat.le_refl w1.heap.size) fun z => HC3.out z.val)
        refine region_below (by kernel_rfl) (by kernel_rfl) (Below.refl w1.heap.size w1) ?_
        repeat (go_big_quiet_step (first | (go_at_call 69; with_reducible exact (HZ1.out _)) | (go_at_call 60; with_reducible exact (HY1.out _)) | (go_at_call 69; with_reducible exact (HZ2.out _)) | (go_at_call 60; with_reducible exact (HY2.out _)) | (go_at_call 69; with_reducible exact (HZ3.out _)) | (go_at_call 60; with_reducible exact (HY3.out _))))
        refine wpQuiet_nil ?_
        intro _ hw'
        obtain ⟨z, rfl⟩ := hw'
        have HZ := hid z.ok
        clear i7 j7 i8 j8 i9 j9 i10 j10 i11 j11 i12 j12 i13 j13 i14 j14
        go_wp2_with fail
        go_ret
        exact ⟨by rw [HCR.out]; rfl, HB1.out.trans (HZ.out.mono HB1.out.size)⟩
      | true =>
        cases d4 with
        | false =>
          have hr : (crB a b = false) := by rw [HCR.out]; rfl
          replace HCR := hid hr
          clear hr
          go_enter Try.func75, Try.ntmps75
          go_upto_region 1 with (fail)
          rw [← HW1.out, ← HB0.out, ← HBB.out]
          have cz := fun z : BW w1.heap.size w1 => (HVA.out.below z.ok).cells
          have cy := fun z : BW w1.heap.size w1 => (HVB.out.below z.ok).cells
          have i7 := fun z => (cz z).k7; have j7 := fun z => (cy z).k7; have i8 := fun z => (cz z).k8; have j8 := fun z => (cy z).k8; have i9 := fun z => (cz z).k9; have j9 := fun z => (cy z).k9; have i10 := fun z => (cz z).k10; have j10 := fun z => (cy z).k10; have i11 := fun z => (cz z).k11; have j11 := fun z => (cy z).k11; have i12 := fun z => (cz z).k12; have j12 := fun z => (cy z).k12; have i13 := fun z => (cz z).k13; have j13 := fun z => (cy z).k13; have i14 := fun z => (cz z).k14; have j14 := fun z => (cy z).k14
          clear cz cy
          have HZ1 := hid (below_class (wb := w1) (Nat.le_refl w1.heap.size) fun z => HA1.out z.val); have HY1 := hid (below_class (wb := w1) (Nat.le_refl w1.heap.size) fun z => HC1.out z.val); have HZ2 := hid (below_class (wb := w1) (Nat.le_refl w1.heap.size) fun z => HA2.out z.val); have HY2 := hid (below_class (wb := w1) (Nat.le_refl w1.heap.size) fun z => HC2.out z.val); have HZ3 := hid (below_class (wb := w1) (Nat.le_refl w1.heap.size) fun z => HA3.out z.val); have HY3 := hid (below_class (wb := w1) (Nat.le_refl w1.heap.size) fun z => HC3.out z.val); have HZ4 := hid (below_class (wb := w1) (Nat.le_refl w1.heap.size) fun z => HA4.out z.val); have HY4 := hid (below_class (wb := w1) (Nat.le_refl w1.heap.size) fun z => HC4.out z.val)
          refine region_below (by kernel_rfl) (by kernel_rfl) (Below.refl w1.heap.size w1) ?_
          repeat (go_big_quiet_step (first | (go_at_call 69; with_reducible exact (HZ1.out _)) | (go_at_call 60; with_reducible exact (HY1.out _)) | (go_at_call 69; with_reducible exact (HZ2.out _)) | (go_at_call 60; with_reducible exact (HY2.out _)) | (go_at_call 69; with_reducible exact (HZ3.out _)) | (go_at_call 60; with_reducible exact (HY3.out _)) | (go_at_call 69; with_reducible exact (HZ4.out _)) | (go_at_call 60; with_reducible exact (HY4.out _))))
          refine wpQuiet_nil ?_
          intro _ hw'
          obtain ⟨z, rfl⟩ := hw'
          have HZ := hid z.ok
          clear i7 j7 i8 j8 i9 j9 i10 j10 i11 j11 i12 j12 i13 j13 i14 j14
          go_wp2_with fail
          go_ret
          exact ⟨by rw [HCR.out]; rfl, HB1.out.trans (HZ.out.mono HB1.out.size)⟩
        | true =>
          have hr : (crB a b = true) := by rw [HCR.out]; rfl
          replace HCR := hid hr
          clear hr
          go_enter Try.func75, Try.ntmps75
          go_upto_region 1 with (fail)
          rw [← HW1.out, ← HB0.out, ← HBB.out]
          have cz := fun z : BW w1.heap.size w1 => (HVA.out.below z.ok).cells
          have cy := fun z : BW w1.heap.size w1 => (HVB.out.below z.ok).cells
          have i7 := fun z => (cz z).k7; have j7 := fun z => (cy z).k7; have i8 := fun z => (cz z).k8; have j8 := fun z => (cy z).k8; have i9 := fun z => (cz z).k9; have j9 := fun z => (cy z).k9; have i10 := fun z => (cz z).k10; have j10 := fun z => (cy z).k10; have i11 := fun z => (cz z).k11; have j11 := fun z => (cy z).k11; have i12 := fun z => (cz z).k12; have j12 := fun z => (cy z).k12; have i13 := fun z => (cz z).k13; have j13 := fun z => (cy z).k13; have i14 := fun z => (cz z).k14; have j14 := fun z => (cy z).k14
          clear cz cy
          have HZ1 := hid (below_class (wb := w1) (Nat.le_refl w1.heap.size) fun z => HA1.out z.val); have HY1 := hid (below_class (wb := w1) (Nat.le_refl w1.heap.size) fun z => HC1.out z.val); have HZ2 := hid (below_class (wb := w1) (Nat.le_refl w1.heap.size) fun z => HA2.out z.val); have HY2 := hid (below_class (wb := w1) (Nat.le_refl w1.heap.size) fun z => HC2.out z.val); have HZ3 := hid (below_class (wb := w1) (Nat.le_refl w1.heap.size) fun z => HA3.out z.val); have HY3 := hid (below_class (wb := w1) (Nat.le_refl w1.heap.size) fun z => HC3.out z.val); have HZ4 := hid (below_class (wb := w1) (Nat.le_refl w1.heap.size) fun z => HA4.out z.val); have HY4 := hid (below_class (wb := w1) (Nat.le_refl w1.heap.size) fun z => HC4.out z.val)
          refine region_below (by kernel_rfl) (by kernel_rfl) (Below.refl w1.heap.size w1) ?_
          repeat (go_big_quiet_step (first | (go_at_call 69; with_reducible exact (HZ1.out _)) | (go_at_call 60; with_reducible exact (HY1.out _)) | (go_at_call 69; with_reducible exact (HZ2.out _)) | (go_at_call 60; with_reducible exact (HY2.out _)) | (go_at_call 69; with_reducible exact (HZ3.out _)) | (go_at_call 60; with_reducible exact (HY3.out _)) | (go_at_call 69; with_reducible exact (HZ4.out _)) | (go_at_call 60; with_reducible exact (HY4.out _))))
          refine wpQuiet_nil ?_
          intro _ hw'
          obtain ⟨z, rfl⟩ := hw'
          have HZ := hid z.ok
          clear i7 j7 i8 j8 i9 j9 i10 j10 i11 j11 i12 j12 i13 j13 i14 j14
          go_wp2_with fail
          go_ret
          exact ⟨by rw [HCR.out]; rfl, HB1.out.trans (HZ.out.mono HB1.out.size)⟩
set_option maxRecDepth 100000 in
set_option maxHeartbeats 4000000 in
theorem crossR_any (a b : Bxv) (ha : a.placed) (hb : b.placed) (w : World) :
    Calls Try.prog 24 #[.agg #[.int .i64 a.nd.kind, .int .i64 a.nd.sign, .int .i64 a.nd.turn, .bool a.nd.mir, .int .i64 a.nd.state, .int .i64 a.nd.mn, .int .i64 a.nd.mx, .int .i64 a.x.n, .int .i64 a.x.d, .int .i64 a.y.n, .int .i64 a.y.d, .int .i64 a.w.n, .int .i64 a.w.d, .int .i64 a.h.n, .int .i64 a.h.d], .agg #[.int .i64 b.nd.kind, .int .i64 b.nd.sign, .int .i64 b.nd.turn, .bool b.nd.mir, .int .i64 b.nd.state, .int .i64 b.nd.mn, .int .i64 b.nd.mx, .int .i64 b.x.n, .int .i64 b.x.d, .int .i64 b.y.n, .int .i64 b.y.d, .int .i64 b.w.n, .int .i64 b.w.d, .int .i64 b.h.n, .int .i64 b.h.d]] w fun e w' => e = .returned (.bool (crB a b)) ∧ Below w.heap.size w w' := by
  obtain ⟨w1, hw1⟩ : ∃ w1, w1 = (w.alloc (.cells #[.int .i64 a.nd.kind, .int .i64 a.nd.sign, .int .i64 a.nd.turn, .bool a.nd.mir, .int .i64 a.nd.state, .int .i64 a.nd.mn, .int .i64 a.nd.mx, .int .i64 a.x.n, .int .i64 a.x.d, .int .i64 a.y.n, .int .i64 a.y.d, .int .i64 a.w.n, .int .i64 a.w.d, .int .i64 a.h.n, .int .i64 a.h.d] 54)).alloc (.cells #[.int .i64 b.nd.kind, .int .i64 b.nd.sign, .int .i64 b.nd.turn, .bool b.nd.mir, .int .i64 b.nd.state, .int .i64 b.nd.mn, .int .i64 b.nd.mx, .int .i64 b.x.n, .int .i64 b.x.d, .int .i64 b.y.n, .int .i64 b.y.d, .int .i64 b.w.n, .int .i64 b.w.d, .int .i64 b.h.n, .int .i64 b.h.d] 54) := ⟨_, rfl⟩
  have hb1 : Below w.heap.size w w1 := by rw [hw1]; exact ((Below.refl _ _).alloc (Nat.le_refl _) _).alloc (by simp) _
  have h0 : BxB w1 w.heap.size a := by rw [hw1]; exact old_blk (nw_blk rfl)
  have h1 : BxB w1 (w.heap.size + 1) b := by rw [hw1]; exact nw_blk (by simp)
  have HA1 := hid fun W : World => addW_any b.x b.w (hb.x.num.prd hb.w.num (by decide) (by decide) (by decide)) W
  have HA2 := hid fun W : World => addW_any a.x a.w (ha.x.num.prd ha.w.num (by decide) (by decide) (by decide)) W
  have HA3 := hid fun W : World => addW_any b.y b.h (hb.y.num.prd hb.h.num (by decide) (by decide) (by decide)) W
  have HA4 := hid fun W : World => addW_any a.y a.h (ha.y.num.prd ha.h.num (by decide) (by decide) (by decide)) W
  have HC1 := hid fun W : World => lessW_any a.x b.xe (ha.x.num.prd hb.xe.num (by decide) (by decide) (by decide)) W
  have HC2 := hid fun W : World => lessW_any b.x a.xe (hb.x.num.prd ha.xe.num (by decide) (by decide) (by decide)) W
  have HC3 := hid fun W : World => lessW_any a.y b.ye (ha.y.num.prd hb.ye.num (by decide) (by decide) (by decide)) W
  have HC4 := hid fun W : World => lessW_any b.y a.ye (hb.y.num.prd ha.ye.num (by decide) (by decide) (by decide)) W
  have e1 : b.x.add b.w = b.xe := rfl
  have e2 : a.x.add a.w = a.xe := rfl
  have e3 : b.y.add b.h = b.ye := rfl
  have e4 : a.y.add a.h = a.ye := rfl
  rw [e1] at HA1
  rw [e2] at HA2
  rw [e3] at HA3
  rw [e4] at HA4
  have hcr : crB a b = (decide (a.x.lt b.xe) && decide (b.x.lt a.xe) && decide (a.y.lt b.ye) && decide (b.y.lt a.ye)) := rfl
  generalize decide (a.x.lt b.xe) = d1 at *
  generalize decide (b.x.lt a.xe) = d2 at *
  generalize decide (a.y.lt b.ye) = d3 at *
  generalize decide (b.y.lt a.ye) = d4 at *
  generalize b.xe = f1 at *
  generalize a.xe = f2 at *
  generalize b.ye = f3 at *
  generalize a.ye = f4 at *
  have HCR := hid hcr
  have HW1 := hid hw1; have HB1 := hid hb1; have HVA := hid h0; have HVB := hid h1
  clear hw1 hb1 h0 h1 e1 e2 e3 e4 ha hb hcr
  obtain ⟨B0, hB0⟩ : ∃ B0, B0 = w.heap.size := ⟨_, rfl⟩
  obtain ⟨B1, hB1⟩ : ∃ B1, B1 = B0 + 1 := ⟨_, rfl⟩
  have HB0 := hid hB0; have HBB := hid hB1
  rw [← hB0] at HVA HVB
  rw [← hB1] at HVB
  clear hB0 hB1
  cases d1 with
  | false =>
    have hr : (crB a b = false) := by rw [HCR.out]; simp
    replace HCR := hid hr
    clear hr
    go_enter Try.func24, Try.ntmps24
    go_upto_region 1 with (fail)
    rw [← HW1.out, ← HB0.out, ← HBB.out]
    have cz := fun z : BW w1.heap.size w1 => (HVA.out.below z.ok).cells
    have cy := fun z : BW w1.heap.size w1 => (HVB.out.below z.ok).cells
    have i7 := fun z => (cz z).k7; have j7 := fun z => (cy z).k7; have i8 := fun z => (cz z).k8; have j8 := fun z => (cy z).k8; have i9 := fun z => (cz z).k9; have j9 := fun z => (cy z).k9; have i10 := fun z => (cz z).k10; have j10 := fun z => (cy z).k10; have i11 := fun z => (cz z).k11; have j11 := fun z => (cy z).k11; have i12 := fun z => (cz z).k12; have j12 := fun z => (cy z).k12; have i13 := fun z => (cz z).k13; have j13 := fun z => (cy z).k13; have i14 := fun z => (cz z).k14; have j14 := fun z => (cy z).k14
    clear cz cy
    have HZ1 := hid (below_class (wb := w1) (Nat.le_refl w1.heap.size) fun z => HA1.out z.val); have HY1 := hid (below_class (wb := w1) (Nat.le_refl w1.heap.size) fun z => HC1.out z.val)
    refine region_below (by kernel_rfl) (by kernel_rfl) (Below.refl w1.heap.size w1) ?_
    repeat (go_big_quiet_step (first | (go_at_call 56; with_reducible exact (HZ1.out _)) | (go_at_call 57; with_reducible exact (HY1.out _))))
    refine wpQuiet_nil ?_
    intro _ hw'
    obtain ⟨z, rfl⟩ := hw'
    have HZ := hid z.ok
    clear i7 j7 i8 j8 i9 j9 i10 j10 i11 j11 i12 j12 i13 j13 i14 j14
    go_wp2_with fail
    go_ret
    exact ⟨by rw [HCR.out]; rfl, HB1.out.trans (HZ.out.mono HB1.out.size)⟩
  | true =>
    cases d2 with
    | false =>
      have hr : (crB a b = false) := by rw [HCR.out]; simp
      replace HCR := hid hr
      clear hr
      go_enter Try.func24, Try.ntmps24
      go_upto_region 1 with (fail)
      rw [← HW1.out, ← HB0.out, ← HBB.out]
      have cz := fun z : BW w1.heap.size w1 => (HVA.out.below z.ok).cells
      have cy := fun z : BW w1.heap.size w1 => (HVB.out.below z.ok).cells
      have i7 := fun z => (cz z).k7; have j7 := fun z => (cy z).k7; have i8 := fun z => (cz z).k8; have j8 := fun z => (cy z).k8; have i9 := fun z => (cz z).k9; have j9 := fun z => (cy z).k9; have i10 := fun z => (cz z).k10; have j10 := fun z => (cy z).k10; have i11 := fun z => (cz z).k11; have j11 := fun z => (cy z).k11; have i12 := fun z => (cz z).k12; have j12 := fun z => (cy z).k12; have i13 := fun z => (cz z).k13; have j13 := fun z => (cy z).k13; have i14 := fun z => (cz z).k14; have j14 := fun z => (cy z).k14
      clear cz cy
      have HZ1 := hid (below_class (wb := w1) (Nat.le_refl w1.heap.size) fun z => HA1.out z.val); have HY1 := hid (below_class (wb := w1) (Nat.le_refl w1.heap.size) fun z => HC1.out z.val); have HZ2 := hid (below_class (wb := w1) (Nat.le_refl w1.heap.size) fun z => HA2.out z.val); have HY2 := hid (below_class (wb := w1) (Nat.le_refl w1.heap.size) fun z => HC2.out z.val)
      refine region_below (by kernel_rfl) (by kernel_rfl) (Below.refl w1.heap.size w1) ?_
      repeat (go_big_quiet_step (first | (go_at_call 56; with_reducible exact (HZ1.out _)) | (go_at_call 57; with_reducible exact (HY1.out _)) | (go_at_call 56; with_reducible exact (HZ2.out _)) | (go_at_call 57; with_reducible exact (HY2.out _))))
      refine wpQuiet_nil ?_
      intro _ hw'
      obtain ⟨z, rfl⟩ := hw'
      have HZ := hid z.ok
      clear i7 j7 i8 j8 i9 j9 i10 j10 i11 j11 i12 j12 i13 j13 i14 j14
      go_wp2_with fail
      go_ret
      exact ⟨by rw [HCR.out]; rfl, HB1.out.trans (HZ.out.mono HB1.out.size)⟩
    | true =>
      cases d3 with
      | false =>
        have hr : (crB a b = false) := by rw [HCR.out]; simp
        replace HCR := hid hr
        clear hr
        go_enter Try.func24, Try.ntmps24
        go_upto_region 1 with (fail)
        rw [← HW1.out, ← HB0.out, ← HBB.out]
        have cz := fun z : BW w1.heap.size w1 => (HVA.out.below z.ok).cells
        have cy := fun z : BW w1.heap.size w1 => (HVB.out.below z.ok).cells
        have i7 := fun z => (cz z).k7; have j7 := fun z => (cy z).k7; have i8 := fun z => (cz z).k8; have j8 := fun z => (cy z).k8; have i9 := fun z => (cz z).k9; have j9 := fun z => (cy z).k9; have i10 := fun z => (cz z).k10; have j10 := fun z => (cy z).k10; have i11 := fun z => (cz z).k11; have j11 := fun z => (cy z).k11; have i12 := fun z => (cz z).k12; have j12 := fun z => (cy z).k12; have i13 := fun z => (cz z).k13; have j13 := fun z => (cy z).k13; have i14 := fun z => (cz z).k14; have j14 := fun z => (cy z).k14
        clear cz cy
        have HZ1 := hid (below_class (wb := w1) (Nat.le_refl w1.heap.size) fun z => HA1.out z.val); have HY1 := hid (below_class (wb := w1) (Nat.le_refl w1.heap.size) fun z => HC1.out z.val); have HZ2 := hid (below_class (wb := w1) (Nat.le_refl w1.heap.size) fun z => HA2.out z.val); have HY2 := hid (below_class (wb := w1) (Nat.le_refl w1.heap.size) fun z => HC2.out z.val); have HZ3 := hid (below_class (wb := w1) (Nat.le_refl w1.heap.size) fun z => HA3.out z.val); have HY3 := hid (below_class (wb := w1) (Nat.le_refl w1.heap.size) fun z => HC3.out z.val)
        refine region_below (by kernel_rfl) (by kernel_rfl) (Below.refl w1.heap.size w1) ?_
        repeat (go_big_quiet_step (first | (go_at_call 56; with_reducible exact (HZ1.out _)) | (go_at_call 57; with_reducible exact (HY1.out _)) | (go_at_call 56; with_reducible exact (HZ2.out _)) | (go_at_call 57; with_reducible exact (HY2.out _)) | (go_at_call 56; with_reducible exact (HZ3.out _)) | (go_at_call 57; with_reducible exact (HY3.out _))))
        refine wpQuiet_nil ?_
        intro _ hw'
        obtain ⟨z, rfl⟩ := hw'
        have HZ := hid z.ok
        clear i7 j7 i8 j8 i9 j9 i10 j10 i11 j11 i12 j12 i13 j13 i14 j14
        go_wp2_with fail
        go_ret
        exact ⟨by rw [HCR.out]; rfl, HB1.out.trans (HZ.out.mono HB1.out.size)⟩
      | true =>
        cases d4 with
        | false =>
          have hr : (crB a b = false) := by rw [HCR.out]; rfl
          replace HCR := hid hr
          clear hr
          go_enter Try.func24, Try.ntmps24
          go_upto_region 1 with (fail)
          rw [← HW1.out, ← HB0.out, ← HBB.out]
          have cz := fun z : BW w1.heap.size w1 => (HVA.out.below z.ok).cells
          have cy := fun z : BW w1.heap.size w1 => (HVB.out.below z.ok).cells
          have i7 := fun z => (cz z).k7; have j7 := fun z => (cy z).k7; have i8 := fun z => (cz z).k8; have j8 := fun z => (cy z).k8; have i9 := fun z => (cz z).k9; have j9 := fun z => (cy z).k9; have i10 := fun z => (cz z).k10; have j10 := fun z => (cy z).k10; have i11 := fun z => (cz z).k11; have j11 := fun z => (cy z).k11; have i12 := fun z => (cz z).k12; have j12 := fun z => (cy z).k12; have i13 := fun z => (cz z).k13; have j13 := fun z => (cy z).k13; have i14 := fun z => (cz z).k14; have j14 := fun z => (cy z).k14
          clear cz cy
          have HZ1 := hid (below_class (wb := w1) (Nat.le_refl w1.heap.size) fun z => HA1.out z.val); have HY1 := hid (below_class (wb := w1) (Nat.le_refl w1.heap.size) fun z => HC1.out z.val); have HZ2 := hid (below_class (wb := w1) (Nat.le_refl w1.heap.size) fun z => HA2.out z.val); have HY2 := hid (below_class (wb := w1) (Nat.le_refl w1.heap.size) fun z => HC2.out z.val); have HZ3 := hid (below_class (wb := w1) (Nat.le_refl w1.heap.size) fun z => HA3.out z.val); have HY3 := hid (below_class (wb := w1) (Nat.le_refl w1.heap.size) fun z => HC3.out z.val); have HZ4 := hid (below_class (wb := w1) (Nat.le_refl w1.heap.size) fun z => HA4.out z.val); have HY4 := hid (below_class (wb := w1) (Nat.le_refl w1.heap.size) fun z => HC4.out z.val)
          refine region_below (by kernel_rfl) (by kernel_rfl) (Below.refl w1.heap.size w1) ?_
          repeat (go_big_quiet_step (first | (go_at_call 56; with_reducible exact (HZ1.out _)) | (go_at_call 57; with_reducible exact (HY1.out _)) | (go_at_call 56; with_reducible exact (HZ2.out _)) | (go_at_call 57; with_reducible exact (HY2.out _)) | (go_at_call 56; with_reducible exact (HZ3.out _)) | (go_at_call 57; with_reducible exact (HY3.out _)) | (go_at_call 56; with_reducible exact (HZ4.out _)) | (go_at_call 57; with_reducible exact (HY4.out _))))
          refine wpQuiet_nil ?_
          intro _ hw'
          obtain ⟨z, rfl⟩ := hw'
          have HZ := hid z.ok
          clear i7 j7 i8 j8 i9 j9 i10 j10 i11 j11 i12 j12 i13 j13 i14 j14
          go_wp2_with fail
          go_ret
          exact ⟨by rw [HCR.out]; rfl, HB1.out.trans (HZ.out.mono HB1.out.size)⟩
        | true =>
          have hr : (crB a b = true) := by rw [HCR.out]; rfl
          replace HCR := hid hr
          clear hr
          go_enter Try.func24, Try.ntmps24
          go_upto_region 1 with (fail)
          rw [← HW1.out, ← HB0.out, ← HBB.out]
          have cz := fun z : BW w1.heap.size w1 => (HVA.out.below z.ok).cells
          have cy := fun z : BW w1.heap.size w1 => (HVB.out.below z.ok).cells
          have i7 := fun z => (cz z).k7; have j7 := fun z => (cy z).k7; have i8 := fun z => (cz z).k8; have j8 := fun z => (cy z).k8; have i9 := fun z => (cz z).k9; have j9 := fun z => (cy z).k9; have i10 := fun z => (cz z).k10; have j10 := fun z => (cy z).k10; have i11 := fun z => (cz z).k11; have j11 := fun z => (cy z).k11; have i12 := fun z => (cz z).k12; have j12 := fun z => (cy z).k12; have i13 := fun z => (cz z).k13; have j13 := fun z => (cy z).k13; have i14 := fun z => (cz z).k14; have j14 := fun z => (cy z).k14
          clear cz cy
          have HZ1 := hid (below_class (wb := w1) (Nat.le_refl w1.heap.size) fun z => HA1.out z.val); have HY1 := hid (below_class (wb := w1) (Nat.le_refl w1.heap.size) fun z => HC1.out z.val); have HZ2 := hid (below_class (wb := w1) (Nat.le_refl w1.heap.size) fun z => HA2.out z.val); have HY2 := hid (below_class (wb := w1) (Nat.le_refl w1.heap.size) fun z => HC2.out z.val); have HZ3 := hid (below_class (wb := w1) (Nat.le_refl w1.heap.size) fun z => HA3.out z.val); have HY3 := hid (below_class (wb := w1) (Nat.le_refl w1.heap.size) fun z => HC3.out z.val); have HZ4 := hid (below_class (wb := w1) (Nat.le_refl w1.heap.size) fun z => HA4.out z.val); have HY4 := hid (below_class (wb := w1) (Nat.le_refl w1.heap.size) fun z => HC4.out z.val)
          refine region_below (by kernel_rfl) (by kernel_rfl) (Below.refl w1.heap.size w1) ?_
          repeat (go_big_quiet_step (first | (go_at_call 56; with_reducible exact (HZ1.out _)) | (go_at_call 57; with_reducible exact (HY1.out _)) | (go_at_call 56; with_reducible exact (HZ2.out _)) | (go_at_call 57; with_reducible exact (HY2.out _)) | (go_at_call 56; with_reducible exact (HZ3.out _)) | (go_at_call 57; with_reducible exact (HY3.out _)) | (go_at_call 56; with_reducible exact (HZ4.out _)) | (go_at_call 57; with_reducible exact (HY4.out _))))
          refine wpQuiet_nil ?_
          intro _ hw'
          obtain ⟨z, rfl⟩ := hw'
          have HZ := hid z.ok
          clear i7 j7 i8 j8 i9 j9 i10 j10 i11 j11 i12 j12 i13 j13 i14 j14
          go_wp2_with fail
          go_ret
          exact ⟨by rw [HCR.out]; rfl, HB1.out.trans (HZ.out.mono HB1.out.size)⟩
end Go.Proofs.Ytfkcpcdndleboaa
